/- Several texts of the proof, one behind the other: PlR, PlB, RmQ. -/
import Derived.Test.YtdgdajnbkfmijaaGreatDoorMRoomMeets38
import Derived.Test.YtdgdajnbkfmijaaGreatDoorMRoomMeets1
import Derived.Test.YtdgdajnbkfmijaaGreatDoorMRoomMeets34
import Derived.Test.YtdgdajnbkfmijaaGreatDoorMRoomMeets11
import Derived.Deep.RegionHeld3
import Derived.Test.YtdgdajnbkfmijaaGreatDoorMRoomMeets39
/- shape.plays of []int32. -/
namespace Go.Proofs.YtdgdajnbkfmijaaGreatDoor
open Go.RowKit
set_option maxRecDepth 100000
theorem el_R : El Tryz.prog 165 21 1 4 := El.mk' Tryz.underlying165 (by kernel_rfl) (by decide)
theorem one_R (R : List Int) : ∀ v ∈ i32s R, v.oneCell' = true := by
  intro v hv
  unfold i32s at hv
  obtain ⟨x, -, rfl⟩ := List.mem_map.1 hv
  rfl
theorem app_R (a b : List Int) : i32s (a ++ b) = i32s a ++ i32s b := by unfold i32s; rw [List.map_append]
theorem len_R (R : List Int) : (i32s R).length = R.length := by unfold i32s; rw [List.length_map]
theorem clip_R {n : Nat} {v : Value} {xs : List Value} {w : World} (h : Sl w 1 v n xs) : Calls Tryz.prog 153 #[v] w fun e w' => (∃ v', e = .returned v' ∧ Sl w 1 v' n xs ∧ ∀ B, Frs B v → Frs B v') ∧ w' = w := by
  have HS := Hd.mk h
  obtain ⟨A, c, rfl, h2, h3, h4, h4', h5⟩ := h
  have hz : A = none → n = 0 := fun e => by
    by_cases hn : 0 < n
    · obtain ⟨ad, e', -⟩ := h5 hn; rw [e] at e'; cases e'
    · omega
  have HF : Hd (Sl w 1 (.slice A n n) n xs ∧ ∀ B, Frs B (.slice A n c) → Frs B (.slice A n n)) := ⟨⟨A, n, rfl, h2, Nat.le_refl _, by omega, hz, h5⟩, fun B hB ad m c' e => by
    cases e
    exact hB _ _ _ rfl⟩
  unfold maxLen at h4
  clear h2 h4' h5 hz
  have hc : (n : Int) ≤ (c : Int) := by omega
  by_cases hn : n = 0
  · subst hn
    go_enter Tryz.func153, Tryz.ntmps153
    go_wp2_with fail
    go_ret
    exact ⟨⟨_, rfl, HF.out⟩, rfl⟩
  · go_enter Tryz.func153, Tryz.ntmps153
    go_wp2_with fail
    go_ret
    exact ⟨⟨_, rfl, by have := HF.out; simpa using this⟩, rfl⟩
def bad_R (_R : List Int) (_a : Nat) : Bool := false
theorem n_R {R : List Int} (_h : U.AllR R) : (cnt R).of 3 = (R.length : Nat) := of_three R
theorem bad_iff_R {R : List Int} (_h : U.AllR R) {a : Nat} (ha : a ≤ R.length) : bad_R R a = false ↔ ∃ p q, R = p ++ q ∧ (cnt p).of 3 = (a : Int) :=
  ⟨fun _ => ⟨R.take a, R.drop a, (List.take_append_drop _ _).symm, by rw [of_three, List.length_take]; omega⟩, fun _ => rfl⟩
theorem in_R {R : List Int} {v : Value} {n a : Nat} {w : World} (_hsl : Sl w 1 v n (i32s R)) (_hR : U.AllR R) (_hn : n ≤ 1000000) (_ha : a ≤ n) :
    Calls Tryz.prog 116 #[v, .int .i64 a] w fun e w' => e = .returned (.bool (bad_R R a)) ∧ w' = w := inR_calls v a w
def PlPost_R (R : List Int) (l : List PT) (w : World) (e : Ending) (w' : World) : Prop :=
  Below w.heap.size w w' ∧ ((∃ v X, (tnF R 3 1 Cn.zero 0 l).2 = 0 ∧ OpR (tnF R 3 1 Cn.zero 0 l).1 X R ∧ e = .returned (.tuple #[v, .nilIface]) ∧ Sl w' 1 v (rap X R).length (i32s (rap X R)) ∧ Frs w.heap.size v) ∨
    ((tnF R 3 1 Cn.zero 0 l).2 = 10 ∧ e = .returned (.tuple #[.slice none 0 0, errno 10])))
/-- A part of the document in units. -/
theorem seg_R {P d q R : List Int} {w : World} {b o n c a : Nat} (h : Sl w 1 (.slice (some ⟨b, o, none⟩) n c) n (i32s R)) (hR : R = P ++ (d ++ q)) (ha : P.length = a) : Sl w 1 (.slice (some ⟨b, o + a, none⟩) d.length (c - a)) d.length (i32s d) ∧ Sl w 1 (.slice (some ⟨b, o + a, none⟩) 0 (c - a)) 0 [] := by
  have hn : R.length = n := by have := h.len; rw [len_R] at this; omega
  have e1 : i32s R = i32s P ++ (i32s d ++ i32s q) := by rw [hR, app_R, app_R]
  have e2 : R.length = P.length + (d.length + q.length) := by rw [← len_R, ← len_R, ← len_R, ← len_R, e1, List.length_append, List.length_append]
  have h1 := h.part1 (i := a) (m := d.length) (by omega)
  have h2 := h.part1 (i := a) (m := 0) (by omega)
  rw [e1, List.drop_left' (by rw [len_R, ha]), List.take_left' (len_R d)] at h1
  rw [List.take_zero] at h2
  exact ⟨h1, h2⟩
/-- A round's box, and what lies below. -/
structure PlS_R (w : World) (bx : Nat) (x y : Int) (z : ByteArray) (w' : World) : Prop where
  below : Below w.heap.size w w'
  box : Blk w' bx 113 #[.int .i64 x, .int .i64 y, .string z]
abbrev PlX_R (w : World) (bx : Nat) (x y : Int) (z : ByteArray) (w' : World) : Prop := PlS_R w bx x y z w' ∧ w'.cell? ⟨bx, 0, none⟩ = some (.int .i64 x) ∧ w'.cell? ⟨bx, 1, none⟩ = some (.int .i64 y) ∧ w'.cell? ⟨bx, 2, none⟩ = some (.string z)
theorem PlS_R.x {w w' : World} {bx : Nat} {x y : Int} {z : ByteArray} (h : PlS_R w bx x y z w') : PlX_R w bx x y z w' := by
  have z0 := h.box.cell 0
  have z1 := h.box.cell 1
  have z2 := h.box.cell 2
  simp only [List.getElem?_toArray, List.getElem?_cons_zero, List.getElem?_cons_succ] at z0 z1 z2
  exact ⟨h, z0, z1, z2⟩
theorem PlS_R.drew {w w' : World} {bx : Nat} {x y : Int} {z : ByteArray} (h : PlS_R w bx x y z w') : PlS_R w bx x y z w'.drew := ⟨ex_drew h.below, h.box⟩
theorem PlS_R.call {w w' w2 : World} {bx : Nat} {x y : Int} {z : ByteArray} (h : PlS_R w bx x y z w') (hb : Below w'.heap.size w' w2) : PlS_R w bx x y z w2 := ⟨bstep h.below hb, h.box.below hb h.box.lt⟩
theorem PlS_R.app {w w' w2 : World} {bx : Nat} {x y : Int} {z : ByteArray} {v : Value} (h : PlS_R w bx x y z w') (hb : Below w.heap.size w' w2) (hg : w'.grownBy w2 v.ownBlock) (hv : v.ownBlock ≠ some bx) : PlS_R w bx x y z w2 :=
  ⟨h.below.trans hb, h.box.only (Only.of_grown hg) (fun e => hv e.symm)⟩
theorem nlen_R {R P d q : List Int} {a x : Nat} (hA : U.AllR R) (hR : R = P ++ (d ++ q)) (ha : P.length = a) (hd : (cnt d).of 3 = (x : Int)) : (P ++ d).length = a + x := by
  have h : U.AllR ((P ++ d) ++ q) := by rw [List.append_assoc, ← hR]; exact hA
  have h1 := n_R (all_of_app h).1
  have h2 := n_R (all_of_app (all_of_app h).1).1
  rw [cnt_app_of, h2, hd, ha] at h1
  omega
theorem nd_R {R P d q : List Int} {x : Nat} (hA : U.AllR R) (hR : R = P ++ (d ++ q)) (hd : (cnt d).of 3 = (x : Int)) : d.length = x := by
  have h : U.AllR (P ++ (d ++ q)) := hR ▸ hA
  have h1 := n_R (all_of_app (all_of_app h).2).1
  rw [hd] at h1
  omega
section
attribute [local go_sem] add_mk
set_option maxHeartbeats 16000000 in
theorem plays_R {R : List Int} {l : List PT} {v1 v2 : Value} {n1 n2 : Nat} {w : World} (hR : U.AllR R) (hbl : bl R ≤ 8000) (hs1 : Sl w 1 v1 n1 (i32s R)) (hs2 : Sl w 3 v2 n2 (opv l)) (hg : ∀ p ∈ l, p.Good) (hw : was l = (cnt R).of 3) (hpl : plen l ≤ 100000) (hn : n2 ≤ 100000) :
    Calls Tryz.prog 113 #[v1, v2, .func (.func 114) #[] #[], .func (.func 116) #[] #[]] w (PlPost_R R l w) := by
  have hln : l.length = n2 := by have := hs2.len; rw [opv_length] at this; omega
  have HS1 := Hd.mk hs1
  have HS2 := Hd.mk hs2
  have HG := Hd.mk hg
  have HA := Hd.mk hR
  have HBL := Hd.mk hbl
  have HLN := Hd.mk hln
  have HPL := Hd.mk hpl
  obtain ⟨A1, c1, rfl, -, hq3, hq4, hq5, hq6⟩ := hs1
  unfold maxLen at hq4
  have HQ6 := Hd.mk hq6
  clear hq6
  have HN1 : Hd (R.length = n1) := ⟨by have := HS1.out.len; rw [len_R] at this; omega⟩
  have HST := Hd.mk (PlI.start hw)
  obtain ⟨A2, c2, rfl, -⟩ := hs2
  clear hR hbl hg hw hpl
  go_enter Tryz.func113, Tryz.ntmps113
  go_wp2_with fail
  go_loopw [10, 11, 17] (fun out av iv wr => ∃ (k a : Nat) (P Q T : List Int), iv = .int .i64 (k : Int) ∧ av = .int .i64 (a : Int) ∧ P.length = a ∧ wr.ownsRow w.heap.size 21 1 out T.length (i32s T) ∧ Below w.heap.size w wr ∧ PlI R 3 l k P Q T) (fun _ _ iv _ => n2 - (intOf iv).toNat)
  case atStart => exact ⟨0, 0, [], R, [], rfl, rfl, rfl, World.ownsRow_nil _ _ _ _, Below.refl _ _, HST.out⟩
  case round =>
    obtain ⟨k, a, P, Q, T, rfl, rfl, hap, hown, hbel, hI⟩ := hrel
    have HB := Hd.mk hbel
    have HOW := Hd.mk hown
    have HI := Hd.mk hI
    obtain ⟨Ao, co, rfl⟩ := own_form hown
    have hsz := hbel.size
    have hkle : k ≤ n2 := by have := hI.k_le; have := HLN.out; omega
    have hRP : R = P ++ Q := hI.eq
    have hallP : U.AllR P := (all_of_app (hRP ▸ HA.out)).1
    have hofP : (cnt P).of 3 = (a : Int) := by rw [n_R hallP, hap]
    have haR : a ≤ n1 := by
      have h1 := HN1.out
      have h2 : i32s R = i32s P ++ i32s Q := by rw [hRP, app_R]
      have h3 := congrArg List.length h2
      rw [List.length_append, len_R, len_R, len_R] at h3
      omega
    have hn1 : n1 ≤ 40000 := by
      have h1 := n_R HA.out
      have h2 := of_le (rs := R) (n := bl R) (bl_len R) 3
      have := HBL.out
      have := HN1.out
      omega
    by_cases hkn : k < n2
    · have hkl : k < l.length := by have := HLN.out; omega
      obtain ⟨b0, o0, c0, hv, hlt, y0, y1, y2⟩ := (HS2.out.below hbel).part hkn hkl
      cases hv
      have hgk := HG.out _ (List.getElem_mem hkl)
      obtain ⟨rs, hsp⟩ := hgk.2
      have hput : l[k].put = U.encs rs := by have := hsp.eq; rwa [List.append_nil] at this
      have hal := hsp.all
      have hrsl : bl rs ≤ 100000 := by
        have h1 := plen_mem' (List.getElem_mem hkl)
        have h2 := HPL.out
        have h3 : (U.encs rs).length = bl rs := rfl
        rw [hput] at h1
        omega
      have HRS := Hd.mk (And.intro hal hrsl)
      have hTl : bl T ≤ 108000 := by
        have h1 := hI.siz
        have h2 := HPL.out
        have h3 := HBL.out
        have h4 : bl P ≤ bl R := by rw [hRP, bl_append]; omega
        omega
      have hTn : T.length ≤ 432000 := by
        have h2 := bl_len T
        omega
      have HTN := Hd.mk hTn
      obtain ⟨x, hx⟩ : ∃ x : Nat, (x : Int) = l[k].keep + l[k].drop := ⟨(l[k].keep + l[k].drop).toNat, by have := hgk.1.2; omega⟩
      have hxr : a + x ≤ n1 := by
        have h1 := hI.rest
        rw [tn_drop hkl, was] at h1
        have h2 := was_nn fun p hp => (HG.out p (List.mem_of_mem_drop (i := k + 1) hp)).1
        have h3 : (cnt R).of 3 = (cnt P).of 3 + (cnt Q).of 3 := by rw [hRP, cnt_app_of]
        have h4 := n_R HA.out
        have h5 := HN1.out
        omega
      have HBADP : Hd (bad_R R a = false) := ⟨(bad_iff_R HA.out (by have := HN1.out; omega)).2 ⟨P, Q, hRP, hofP⟩⟩
      have HSTOP : Hd (bad_R R (a + x) = true → (tnF R 3 1 Cn.zero 0 l).2 = 10) := ⟨fun hb => HI.out.stop (by decide) HG.out hkl (fun d q e e2 => by
        have : bad_R R (a + x) = false := (bad_iff_R HA.out (by have := HN1.out; omega)).2 ⟨P ++ d, q, by rw [HI.out.eq, e, List.append_assoc], by rw [cnt_app_of, hofP, e2]; omega⟩
        rw [this] at hb; cases hb)⟩
      have HGO : Hd (bad_R R (a + x) = false → ∃ d q, R = P ++ (d ++ q) ∧ (cnt d).of 3 = x ∧ PlI R 3 l (k + 1) (P ++ d) q (T ++ (kept l[k] d ++ rs))) := ⟨fun hb => by
        obtain ⟨p, q, e1, e2⟩ := (bad_iff_R HA.out (by have := HN1.out; omega)).1 hb
        obtain ⟨d, q', rfl, -, e4⟩ := pl_behind (u := 3) (a := (a : Int)) (n := (x : Int)) (P := P) (Q := Q) (c := cnt p) hofP (by omega) (by decide) ⟨p, q, by rw [← hRP]; exact e1, by rw [e2]; omega, rfl⟩
        exact ⟨d, q', hRP, e4, HI.out.step (by decide) HG.out hkl (by rw [e4, hx]) hput hal⟩⟩
      have harg := hgk.1
      have HAP := Hd.mk hap
      clear hown hbel hI HI hRP hallP hofP hgk hsp hal hrsl hTl hTn hap
      generalize l[k] = p at *
      rcases harg.cases with ⟨b, hb, rfl⟩ | ⟨d9, hd9, rfl⟩ | ⟨d9, hd9, rfl⟩
      · subst hput
        obtain rfl : x = 0 := by dsimp only at hx; omega
        dsimp only at y0 y1 y2 hx
        have HPB : Hd (PlS_R w wr.heap.size 0 0 ⟨(U.encs rs).toArray⟩ (wr.alloc (.cells #[.int .i64 0, .int .i64 0, .string ⟨(U.encs rs).toArray⟩] 113))) := ⟨⟨ex_alloc HB.out _, Blk.new _ _ _⟩⟩
        have HOWB := Hd.mk (HOW.out.alloc (.cells #[.int .i64 0, .int .i64 0, .string ⟨(U.encs rs).toArray⟩] 113))
        have HOB : Hd ((Value.slice Ao T.length co).ownBlock ≠ some wr.heap.size) := ⟨fun e => by have := (HOW.out.lt _ e).2; omega⟩
        have hbad : bad_R R (a + 0) = false := HBADP.out
        obtain ⟨d, q, HRE, HDX, HNX⟩ := HGO.out hbad
        have HNEXT : Hd ((P ++ d).length = a ∧ PlI R 3 l (k + 1) (P ++ d) q (T ++ rs)) := ⟨nlen_R HA.out HRE HAP.out HDX, by have h := HNX; unfold kept at h; rw [if_neg (by dsimp only; omega)] at h; exact h⟩
        clear HRE HDX HNX hbad harg
        have hw1 : IntKind.i64.wrap ((a : Int) + 0) = (a : Int) := by rw [IntKind.wrap_i64] <;> omega
        have hac : (a : Int) ≤ (c1 : Int) := by omega
        have hw2 : IntKind.i64.wrap (a : Int) = (a : Int) := by rw [IntKind.wrap_i64] <;> omega
        go_wp2_with (go_at_call 116; refine (in_R (HS1.out.below (ex_alloc HB.out _)) HA.out (by omega) haR).mono ?_; rintro e w5 ⟨rfl, rfl⟩; rw [HBADP.out])
        generalize wr.alloc (.cells #[.int .i64 0, .int .i64 0, .string ⟨(U.encs rs).toArray⟩] 113) = wb at HPB HOWB ⊢
        generalize wr.heap.size = bx at HPB HOB ⊢
        have hx0 := HPB.out.drew.x
        have HPUT := Hd.mk (fun W => putR_calls HRS.out.1 W (by have := HRS.out.2; omega))
        have HB63 : Hd (T.length + rs.length ≤ maxLen ∧ (T.length + rs.length) * 4 ≤ 140737488355328) := ⟨by
          have h1 := HTN.out
          have h2 : rs.length ≤ 400000 := by have h3 := bl_len rs; have h4 := HRS.out.2; omega
          unfold maxLen; omega⟩
        clear y0 y1 y2 hlt
        have ha0 : (0 : Int) ≤ (a : Int) := by omega
        rcases A1 with _ | ⟨b1, o1, p1⟩
        · clear hq5
          go_region_held3 (fun w' => PlX_R w bx 0 0 ⟨(U.encs rs).toArray⟩ w')
            (first | exact HPB.out.drew.x | exact (PlS_R.call (And.left (by assumption)) (by assumption)).x | exact (PlS_R.app (And.left (by assumption)) (by assumption) (by assumption) HOB.out).x | assumption)
            (first
              | (refine step_sl0 el_R (by first | exact HOWB.out.drew | exact own_below HOWB.out.drew (by assumption)) rfl rfl rfl rfl ?_)
              | (refine step_sl el_R (i32s rs) v8 (by first | exact HOWB.out.drew | exact own_below HOWB.out.drew (by assumption)) hs8 rfl rfl rfl rfl (one_R rs) HB63.out.1 HB63.out.2 (PlS_R.below (And.left (by assumption))).size ?_; intro v9 w9 hown9 hbel9 hgr9 hnew9)
              | (go_at_call 114; refine (HPUT.out _).mono ?_; rintro e w8 ⟨hb8, v8, rfl, hs8⟩)
            )
          all_goals
            have HO9 := Hd.mk hown9
            have HB9 := Hd.mk ((HPB.out.drew.call hb8).below.trans hbel9)
            clear hown9 hbel9 hgr9 hnew9 hb8 hs8
            go_wp2_with fail
            exact ⟨⟨k + 1, _, P ++ d, q, T ++ rs, by go_num, rfl, HNEXT.out.1, by rw [app_R]; have h := HO9.out; rwa [show T.length + rs.length = (T ++ rs).length by rw [← len_R, ← len_R, ← len_R, app_R, List.length_append]] at h, HB9.out, HNEXT.out.2⟩, by simp only [intOf]; omega⟩
        · by_cases hca : c1 = a
          · subst hca
            go_region_held3 (fun w' => PlX_R w bx 0 0 ⟨(U.encs rs).toArray⟩ w')
              (first | exact HPB.out.drew.x | exact (PlS_R.call (And.left (by assumption)) (by assumption)).x | exact (PlS_R.app (And.left (by assumption)) (by assumption) (by assumption) HOB.out).x | assumption)
              (first
                | (refine step_sl0 el_R (by first | exact HOWB.out.drew | exact own_below HOWB.out.drew (by assumption)) rfl rfl rfl rfl ?_)
                | (refine step_sl el_R (i32s rs) v8 (by first | exact HOWB.out.drew | exact own_below HOWB.out.drew (by assumption)) hs8 rfl rfl rfl rfl (one_R rs) HB63.out.1 HB63.out.2 (PlS_R.below (And.left (by assumption))).size ?_; intro v9 w9 hown9 hbel9 hgr9 hnew9)
                | (go_at_call 114; refine (HPUT.out _).mono ?_; rintro e w8 ⟨hb8, v8, rfl, hs8⟩)
              )
            all_goals
              have HO9 := Hd.mk hown9
              have HB9 := Hd.mk ((HPB.out.drew.call hb8).below.trans hbel9)
              clear hown9 hbel9 hgr9 hnew9 hb8 hs8
              go_wp2_with fail
              exact ⟨⟨k + 1, _, P ++ d, q, T ++ rs, by go_num, rfl, HNEXT.out.1, by rw [app_R]; have h := HO9.out; rwa [show T.length + rs.length = (T ++ rs).length by rw [← len_R, ← len_R, ← len_R, app_R, List.length_append]] at h, HB9.out, HNEXT.out.2⟩, by simp only [intOf]; omega⟩
          · skip
            go_region_held3 (fun w' => PlX_R w bx 0 0 ⟨(U.encs rs).toArray⟩ w')
              (first | exact HPB.out.drew.x | exact (PlS_R.call (And.left (by assumption)) (by assumption)).x | exact (PlS_R.app (And.left (by assumption)) (by assumption) (by assumption) HOB.out).x | assumption)
              (first
                | (refine step_sl0 el_R (by first | exact HOWB.out.drew | exact own_below HOWB.out.drew (by assumption)) rfl rfl rfl rfl ?_)
                | (refine step_sl el_R (i32s rs) v8 (by first | exact HOWB.out.drew | exact own_below HOWB.out.drew (by assumption)) hs8 rfl rfl rfl rfl (one_R rs) HB63.out.1 HB63.out.2 (PlS_R.below (And.left (by assumption))).size ?_; intro v9 w9 hown9 hbel9 hgr9 hnew9)
                | (go_at_call 114; refine (HPUT.out _).mono ?_; rintro e w8 ⟨hb8, v8, rfl, hs8⟩)
              )
            all_goals
              have HO9 := Hd.mk hown9
              have HB9 := Hd.mk ((HPB.out.drew.call hb8).below.trans hbel9)
              clear hown9 hbel9 hgr9 hnew9 hb8 hs8
              go_wp2_with fail
              exact ⟨⟨k + 1, _, P ++ d, q, T ++ rs, by go_num, rfl, HNEXT.out.1, by rw [app_R]; have h := HO9.out; rwa [show T.length + rs.length = (T ++ rs).length by rw [← len_R, ← len_R, ← len_R, app_R, List.length_append]] at h, HB9.out, HNEXT.out.2⟩, by simp only [intOf]; omega⟩
      · have hrs0 : rs = [] := by
          by_cases e : rs = []
          · exact e
          · exact absurd hput.symm (encs_ne e)
        subst hrs0
        obtain rfl : x = d9 := by dsimp only at hx; omega
        clear hput
        dsimp only at y0 y1 y2 hx
        have HPB : Hd (PlS_R w wr.heap.size 0 (x : Int) ⟨#[]⟩ (wr.alloc (.cells #[.int .i64 0, .int .i64 (x : Int), .string ⟨#[]⟩] 113))) := ⟨⟨ex_alloc HB.out _, Blk.new _ _ _⟩⟩
        have HOWB := Hd.mk (HOW.out.alloc (.cells #[.int .i64 0, .int .i64 (x : Int), .string ⟨#[]⟩] 113))
        have HOB : Hd ((Value.slice Ao T.length co).ownBlock ≠ some wr.heap.size) := ⟨fun e => by have := (HOW.out.lt _ e).2; omega⟩
        clear hx
        have hn0 : 0 < n1 := by omega
        obtain ⟨b1, o1, rfl⟩ := HS1.out.addr1 hn0
        have hw1 : IntKind.i64.wrap ((a : Int) + (x : Int)) = (a : Int) + (x : Int) := by rw [IntKind.wrap_i64] <;> omega
        have hw2 : IntKind.i64.wrap (a : Int) = (a : Int) := by rw [IntKind.wrap_i64] <;> omega
        have hw3 : IntKind.i64.wrap ((a : Int) + 0) = (a : Int) := by rw [IntKind.wrap_i64] <;> omega
        have hac : (a : Int) ≤ (c1 : Int) := by omega
        have ha0 : (0 : Int) ≤ (a : Int) := by omega
        have hca : ¬ c1 = a := by omega
        have hxa : ((a : Int) + (x : Int)) = ((a + x : Nat) : Int) := by omega
        have HXA := Hd.mk hxa
        clear hxa
        by_cases hbad : bad_R R (a + x) = true
        · have HE := Hd.mk (HSTOP.out hbad)
          have HBT := Hd.mk hbad
          clear hbad harg
          go_wp2_with (first
            | (go_at_call_of 116 (Value.int .i64 (a : Int)); refine (in_R (HS1.out.below (ex_alloc HB.out _)) HA.out (by omega) haR).mono ?_; rintro e w5 ⟨rfl, rfl⟩; rw [HBADP.out])
            | (go_at_call 116; rw [HXA.out]; refine (in_R (HS1.out.below (ex_alloc HB.out _)) HA.out (by omega) hxr).mono ?_; rintro e w5 ⟨rfl, rfl⟩; rw [HBT.out]))
          go_ret2
          exact ⟨ex_alloc HB.out _, .inr ⟨HE.out, rfl⟩⟩
        · have hbad : bad_R R (a + x) = false := by simpa using hbad
          have HBF := Hd.mk hbad
          obtain ⟨d, q, HRE, HDX, HNX⟩ := HGO.out hbad
          have HNEXT : Hd ((P ++ d).length = a + x ∧ PlI R 3 l (k + 1) (P ++ d) q T) := ⟨nlen_R HA.out HRE HAP.out HDX, by have h := HNX; unfold kept at h; rw [if_neg (by dsimp only; omega), List.append_nil, List.append_nil] at h; exact h⟩
          clear HRE HDX HNX hbad harg
          go_wp2_with (first
            | (go_at_call_of 116 (Value.int .i64 (a : Int)); refine (in_R (HS1.out.below (ex_alloc HB.out _)) HA.out (by omega) haR).mono ?_; rintro e w5 ⟨rfl, rfl⟩; rw [HBADP.out])
            | (go_at_call 116; rw [HXA.out]; refine (in_R (HS1.out.below (ex_alloc HB.out _)) HA.out (by omega) hxr).mono ?_; rintro e w5 ⟨rfl, rfl⟩; rw [HBF.out]))
          generalize wr.alloc (.cells #[.int .i64 0, .int .i64 (x : Int), .string ⟨#[]⟩] 113) = wb at HPB HOWB ⊢
          generalize wr.heap.size = bx at HPB HOB ⊢
          have hx0 := HPB.out.drew.x
          have HPUT : Hd (∀ W, Calls Tryz.prog 114 #[.string ⟨#[]⟩] W fun e w' => Below W.heap.size W w' ∧ ∃ A c, e = .returned (.slice A 0 c)) := ⟨fun W => by
            refine (putR_calls (rs := []) (fun r hr => by cases hr) W (by decide)).mono ?_
            rintro e w' ⟨hb, v, rfl, A, c, rfl, -⟩
            exact ⟨hb, A, c, rfl⟩⟩
          clear y0 y1 y2 hlt
          have hax : (a : Int) + (x : Int) ≤ (c1 : Int) := by omega
          have hax0 : (0 : Int) ≤ (a : Int) + (x : Int) := by omega
          have haxn : ((a : Int) + (x : Int)).toNat = a + x := by omega
          go_region_held3 (fun w' => PlX_R w bx 0 (x : Int) ⟨#[]⟩ w')
            (first | exact HPB.out.drew.x | exact (PlS_R.call (And.left (by assumption)) (by assumption)).x | exact (PlS_R.app (And.left (by assumption)) (by assumption) (by assumption) HOB.out).x | assumption)
            (first
              | (refine step_sl0 el_R (by first | exact HOWB.out.drew | exact own_below HOWB.out.drew (by assumption)) rfl rfl rfl rfl ?_)
              | (go_at_call 114; refine (HPUT.out _).mono ?_; rintro e w8 ⟨hb8, A8, c8, rfl⟩)
            )
          all_goals
            have HO9 := Hd.mk (own_below HOWB.out.drew hb8)
            have HB9 := Hd.mk (HPB.out.drew.call hb8).below
            clear hb8
            go_wp2_with fail
            exact ⟨⟨k + 1, a + x, P ++ d, q, T, by go_num, by go_num, HNEXT.out.1, HO9.out, HB9.out, HNEXT.out.2⟩, by simp only [intOf]; omega⟩
      · have hrs0 : rs = [] := by
          by_cases e : rs = []
          · exact e
          · exact absurd hput.symm (encs_ne e)
        subst hrs0
        obtain rfl : x = d9 := by dsimp only at hx; omega
        clear hput
        dsimp only at y0 y1 y2 hx
        have HPB : Hd (PlS_R w wr.heap.size (x : Int) 0 ⟨#[]⟩ (wr.alloc (.cells #[.int .i64 (x : Int), .int .i64 0, .string ⟨#[]⟩] 113))) := ⟨⟨ex_alloc HB.out _, Blk.new _ _ _⟩⟩
        have HOWB := Hd.mk (HOW.out.alloc (.cells #[.int .i64 (x : Int), .int .i64 0, .string ⟨#[]⟩] 113))
        have HOB : Hd ((Value.slice Ao T.length co).ownBlock ≠ some wr.heap.size) := ⟨fun e => by have := (HOW.out.lt _ e).2; omega⟩
        clear hx
        have hn0 : 0 < n1 := by omega
        obtain ⟨b1, o1, rfl⟩ := HS1.out.addr1 hn0
        have hw1 : IntKind.i64.wrap ((a : Int) + (x : Int)) = (a : Int) + (x : Int) := by rw [IntKind.wrap_i64] <;> omega
        have hw2 : IntKind.i64.wrap (a : Int) = (a : Int) := by rw [IntKind.wrap_i64] <;> omega
        have hw3 : IntKind.i64.wrap ((a : Int) + 0) = (a : Int) := by rw [IntKind.wrap_i64] <;> omega
        have hac : (a : Int) ≤ (c1 : Int) := by omega
        have ha0 : (0 : Int) ≤ (a : Int) := by omega
        have hca : ¬ c1 = a := by omega
        have hxa : ((a : Int) + (x : Int)) = ((a + x : Nat) : Int) := by omega
        have HXA := Hd.mk hxa
        clear hxa
        by_cases hbad : bad_R R (a + x) = true
        · have HE := Hd.mk (HSTOP.out hbad)
          have HBT := Hd.mk hbad
          clear hbad harg
          go_wp2_with (first
            | (go_at_call_of 116 (Value.int .i64 (a : Int)); refine (in_R (HS1.out.below (ex_alloc HB.out _)) HA.out (by omega) haR).mono ?_; rintro e w5 ⟨rfl, rfl⟩; rw [HBADP.out])
            | (go_at_call 116; rw [HXA.out]; refine (in_R (HS1.out.below (ex_alloc HB.out _)) HA.out (by omega) hxr).mono ?_; rintro e w5 ⟨rfl, rfl⟩; rw [HBT.out]))
          go_ret2
          exact ⟨ex_alloc HB.out _, .inr ⟨HE.out, rfl⟩⟩
        · have hbad : bad_R R (a + x) = false := by simpa using hbad
          have HBF := Hd.mk hbad
          obtain ⟨d, q, HRE, HDX, HNX⟩ := HGO.out hbad
          have HNEXT : Hd ((P ++ d).length = a + x ∧ PlI R 3 l (k + 1) (P ++ d) q (T ++ d)) := ⟨nlen_R HA.out HRE HAP.out HDX, by have h := HNX; unfold kept at h; rw [if_pos (by dsimp only; omega), List.append_nil] at h; exact h⟩
          have HND : Hd (d.length = x) := ⟨nd_R HA.out HRE HDX⟩
          have HSEG : Hd (∀ W, Below w.heap.size w W → Sl W 1 (.slice (some ⟨b1, o1 + a, none⟩) x (c1 - a)) x (i32s d)) := ⟨fun W hb => by
            have h := (seg_R (HS1.out.below hb) HRE HAP.out).1
            rwa [HND.out] at h⟩
          have HB63 : Hd (T.length + x ≤ maxLen ∧ (T.length + x) * 4 ≤ 140737488355328) := ⟨by
            have h1 := HTN.out
            have h2 : x ≤ 400000 := by omega
            unfold maxLen; omega⟩
          clear HRE HDX HNX hbad harg
          go_wp2_with (first
            | (go_at_call_of 116 (Value.int .i64 (a : Int)); refine (in_R (HS1.out.below (ex_alloc HB.out _)) HA.out (by omega) haR).mono ?_; rintro e w5 ⟨rfl, rfl⟩; rw [HBADP.out])
            | (go_at_call 116; rw [HXA.out]; refine (in_R (HS1.out.below (ex_alloc HB.out _)) HA.out (by omega) hxr).mono ?_; rintro e w5 ⟨rfl, rfl⟩; rw [HBF.out]))
          generalize wr.alloc (.cells #[.int .i64 (x : Int), .int .i64 0, .string ⟨#[]⟩] 113) = wb at HPB HOWB ⊢
          generalize wr.heap.size = bx at HPB HOB ⊢
          have hx0 := HPB.out.drew.x
          have HPUT : Hd (∀ W, Calls Tryz.prog 114 #[.string ⟨#[]⟩] W fun e w' => Below W.heap.size W w' ∧ ∃ A c, e = .returned (.slice A 0 c)) := ⟨fun W => by
            refine (putR_calls (rs := []) (fun r hr => by cases hr) W (by decide)).mono ?_
            rintro e w' ⟨hb, v, rfl, A, c, rfl, -⟩
            exact ⟨hb, A, c, rfl⟩⟩
          clear y0 y1 y2 hlt
          have hax : (a : Int) + (x : Int) ≤ (c1 : Int) := by omega
          have hax0 : (0 : Int) ≤ (a : Int) + (x : Int) := by omega
          have haxn : ((a : Int) + (x : Int)).toNat = a + x := by omega
          go_region_held3 (fun w' => PlX_R w bx (x : Int) 0 ⟨#[]⟩ w')
            (first | exact HPB.out.drew.x | exact (PlS_R.call (And.left (by assumption)) (by assumption)).x | exact (PlS_R.app (And.left (by assumption)) (by assumption) (by assumption) HOB.out).x | assumption)
            (first
              | (refine step_sl el_R (i32s d) (.slice (some ⟨b1, o1 + a, none⟩) x (c1 - a)) (by first | exact HOWB.out.drew | exact own_below HOWB.out.drew (by assumption)) (HSEG.out _ (PlS_R.below (And.left (by assumption)))) rfl rfl rfl rfl (one_R d) HB63.out.1 HB63.out.2 (PlS_R.below (And.left (by assumption))).size ?_; intro v9 w9 hown9 hbel9 hgr9 hnew9)
              | (refine step_sl0 el_R (by first | exact hown9 | exact own_below hown9 (by assumption)) rfl rfl rfl rfl ?_)
              | (go_at_call 114; refine (HPUT.out _).mono ?_; rintro e w8 ⟨hb8, A8, c8, rfl⟩)
            )
          all_goals
            have HO9 : Hd (w8.ownsRow w.heap.size 21 1 v9 (T.length + x) (i32s T ++ i32s d) ∨ w9.ownsRow w.heap.size 21 1 v9 (T.length + x) (i32s T ++ i32s d)) := ⟨.inr hown9⟩
            first
            | (have HB9 := Hd.mk ((HPB.out.drew.call hb8).below.trans hbel9); have HO8 := Hd.mk hown9; clear hb8 hown9 hbel9 hgr9 hnew9 HO9; go_wp2_with fail; exact ⟨⟨k + 1, a + x, P ++ d, q, T ++ d, by go_num, by go_num, HNEXT.out.1, by rw [app_R]; have h := HO8.out; rwa [show T.length + x = (T ++ d).length by rw [← HND.out, ← len_R, ← len_R, ← len_R, app_R, List.length_append]] at h, HB9.out, HNEXT.out.2⟩, by simp only [intOf]; omega⟩)
            | (have HB9 := Hd.mk (bstep (HPB.out.drew.below.trans hbel9) hb8); have HO8 := Hd.mk (own_below hown9 hb8); clear hb8 hown9 hbel9 hgr9 hnew9 HO9; go_wp2_with fail; exact ⟨⟨k + 1, a + x, P ++ d, q, T ++ d, by go_num, by go_num, HNEXT.out.1, by rw [app_R]; have h := HO8.out; rwa [show T.length + x = (T ++ d).length by rw [← HND.out, ← len_R, ← len_R, ← len_R, app_R, List.length_append]] at h, HB9.out, HNEXT.out.2⟩, by simp only [intOf]; omega⟩)
    · obtain rfl : k = n2 := by omega
      obtain ⟨f1, X, f2, f3⟩ := hI.finish (by decide) HLN.out.symm
      subst f3
      have HF := Hd.mk (And.intro f1 f2)
      have HS9 := Hd.mk (Sl.of_own hown)
      have HF9 := Hd.mk (Frs.of_own hown)
      clear hown hbel hI f1 f2 hRP hallP hofP hap
      go_wp2_with (go_at_call 153; refine (clip_R HS9.out).mono ?_; rintro e w9 ⟨⟨v9, rfl, hs9, hf9⟩, rfl⟩; have HS10 := Hd.mk hs9; have HF10 := Hd.mk (hf9 _ HF9.out); clear hs9 hf9)
      go_ret2
      exact ⟨HB.out, .inl ⟨_, X, HF.out.1, HF.out.2, rfl, HS10.out, HF10.out⟩⟩
end
end Go.Proofs.YtdgdajnbkfmijaaGreatDoor
/- shape.plays of []uint8. -/
namespace Go.Proofs.YtdgdajnbkfmijaaGreatDoor
open Go.RowKit
set_option maxRecDepth 100000
theorem el_B : El Tryz.prog 184 5 1 1 := El.mk' Tryz.underlying184 (by kernel_rfl) (by decide)
theorem one_B (R : List Int) : ∀ v ∈ u8s (U.encs R), v.oneCell' = true := by
  intro v hv
  unfold u8s at hv
  obtain ⟨x, -, rfl⟩ := List.mem_map.1 hv
  rfl
theorem app_B (a b : List Int) : u8s (U.encs (a ++ b)) = u8s (U.encs a) ++ u8s (U.encs b) := by rw [U.encs_append]; unfold u8s; rw [List.map_append]
theorem len_B (R : List Int) : (u8s (U.encs R)).length = (U.encs R).length := by unfold u8s; rw [List.length_map]
theorem clip_B {n : Nat} {v : Value} {xs : List Value} {w : World} (h : Sl w 1 v n xs) : Calls Tryz.prog 154 #[v] w fun e w' => (∃ v', e = .returned v' ∧ Sl w 1 v' n xs ∧ ∀ B, Frs B v → Frs B v') ∧ w' = w := by
  have HS := Hd.mk h
  obtain ⟨A, c, rfl, h2, h3, h4, h4', h5⟩ := h
  have hz : A = none → n = 0 := fun e => by
    by_cases hn : 0 < n
    · obtain ⟨ad, e', -⟩ := h5 hn; rw [e] at e'; cases e'
    · omega
  have HF : Hd (Sl w 1 (.slice A n n) n xs ∧ ∀ B, Frs B (.slice A n c) → Frs B (.slice A n n)) := ⟨⟨A, n, rfl, h2, Nat.le_refl _, by omega, hz, h5⟩, fun B hB ad m c' e => by
    cases e
    exact hB _ _ _ rfl⟩
  unfold maxLen at h4
  clear h2 h4' h5 hz
  have hc : (n : Int) ≤ (c : Int) := by omega
  by_cases hn : n = 0
  · subst hn
    go_enter Tryz.func154, Tryz.ntmps154
    go_wp2_with fail
    go_ret
    exact ⟨⟨_, rfl, HF.out⟩, rfl⟩
  · go_enter Tryz.func154, Tryz.ntmps154
    go_wp2_with fail
    go_ret
    exact ⟨⟨_, rfl, by have := HF.out; simpa using this⟩, rfl⟩
def bad_B (R : List Int) (a : Nat) : Bool := bInner (U.encs R) a
theorem n_B {R : List Int} (_h : U.AllR R) : (cnt R).of 1 = ((U.encs R).length : Nat) := of_one_bl R
theorem bad_iff_B {R : List Int} (h : U.AllR R) {a : Nat} (ha : a ≤ (U.encs R).length) : bad_B R a = false ↔ ∃ p q, R = p ++ q ∧ (cnt p).of 1 = (a : Int) := by
  unfold bad_B
  rw [bInner_redg _ _ ha, Bool.not_eq_false', redg_iff h ha]
  constructor
  · rintro ⟨p, q, e1, e2⟩
    exact ⟨p, q, e1, by rw [of_one_bl, e2]⟩
  · rintro ⟨p, q, e1, e2⟩
    exact ⟨p, q, e1, by rw [of_one_bl] at e2; omega⟩
theorem in_B {R : List Int} {v : Value} {n a : Nat} {w : World} (hsl : Sl w 1 v n (u8s (U.encs R))) (_hR : U.AllR R) (hn : n ≤ 1000000) (ha : a ≤ n) :
    Calls Tryz.prog 119 #[v, .int .i64 a] w fun e w' => e = .returned (.bool (bad_B R a)) ∧ w' = w := inB_calls hsl hn ha
def PlPost_B (R : List Int) (l : List PT) (w : World) (e : Ending) (w' : World) : Prop :=
  Below w.heap.size w w' ∧ ((∃ v X, (tnF R 1 1 Cn.zero 0 l).2 = 0 ∧ OpR (tnF R 1 1 Cn.zero 0 l).1 X R ∧ e = .returned (.tuple #[v, .nilIface]) ∧ Sl w' 1 v (U.encs (rap X R)).length (u8s (U.encs (rap X R))) ∧ Frs w.heap.size v) ∨
    ((tnF R 1 1 Cn.zero 0 l).2 = 10 ∧ e = .returned (.tuple #[.slice none 0 0, errno 10])))
/-- A part of the document in units. -/
theorem seg_B {P d q R : List Int} {w : World} {b o n c a : Nat} (h : Sl w 1 (.slice (some ⟨b, o, none⟩) n c) n (u8s (U.encs R))) (hR : R = P ++ (d ++ q)) (ha : (U.encs P).length = a) : Sl w 1 (.slice (some ⟨b, o + a, none⟩) (U.encs d).length (c - a)) (U.encs d).length (u8s (U.encs d)) ∧ Sl w 1 (.slice (some ⟨b, o + a, none⟩) 0 (c - a)) 0 [] := by
  have hn : (U.encs R).length = n := by have := h.len; rw [len_B] at this; omega
  have e1 : u8s (U.encs R) = u8s (U.encs P) ++ (u8s (U.encs d) ++ u8s (U.encs q)) := by rw [hR, app_B, app_B]
  have e2 : (U.encs R).length = (U.encs P).length + ((U.encs d).length + (U.encs q).length) := by rw [← len_B, ← len_B, ← len_B, ← len_B, e1, List.length_append, List.length_append]
  have h1 := h.part1 (i := a) (m := (U.encs d).length) (by omega)
  have h2 := h.part1 (i := a) (m := 0) (by omega)
  rw [e1, List.drop_left' (by rw [len_B, ha]), List.take_left' (len_B d)] at h1
  rw [List.take_zero] at h2
  exact ⟨h1, h2⟩
/-- A round's box, and what lies below. -/
structure PlS_B (w : World) (bx : Nat) (x y : Int) (z : ByteArray) (w' : World) : Prop where
  below : Below w.heap.size w w'
  box : Blk w' bx 113 #[.int .i64 x, .int .i64 y, .string z]
abbrev PlX_B (w : World) (bx : Nat) (x y : Int) (z : ByteArray) (w' : World) : Prop := PlS_B w bx x y z w' ∧ w'.cell? ⟨bx, 0, none⟩ = some (.int .i64 x) ∧ w'.cell? ⟨bx, 1, none⟩ = some (.int .i64 y) ∧ w'.cell? ⟨bx, 2, none⟩ = some (.string z)
theorem PlS_B.x {w w' : World} {bx : Nat} {x y : Int} {z : ByteArray} (h : PlS_B w bx x y z w') : PlX_B w bx x y z w' := by
  have z0 := h.box.cell 0
  have z1 := h.box.cell 1
  have z2 := h.box.cell 2
  simp only [List.getElem?_toArray, List.getElem?_cons_zero, List.getElem?_cons_succ] at z0 z1 z2
  exact ⟨h, z0, z1, z2⟩
theorem PlS_B.drew {w w' : World} {bx : Nat} {x y : Int} {z : ByteArray} (h : PlS_B w bx x y z w') : PlS_B w bx x y z w'.drew := ⟨ex_drew h.below, h.box⟩
theorem PlS_B.call {w w' w2 : World} {bx : Nat} {x y : Int} {z : ByteArray} (h : PlS_B w bx x y z w') (hb : Below w'.heap.size w' w2) : PlS_B w bx x y z w2 := ⟨bstep h.below hb, h.box.below hb h.box.lt⟩
theorem PlS_B.app {w w' w2 : World} {bx : Nat} {x y : Int} {z : ByteArray} {v : Value} (h : PlS_B w bx x y z w') (hb : Below w.heap.size w' w2) (hg : w'.grownBy w2 v.ownBlock) (hv : v.ownBlock ≠ some bx) : PlS_B w bx x y z w2 :=
  ⟨h.below.trans hb, h.box.only (Only.of_grown hg) (fun e => hv e.symm)⟩
theorem nlen_B {R P d q : List Int} {a x : Nat} (hA : U.AllR R) (hR : R = P ++ (d ++ q)) (ha : (U.encs P).length = a) (hd : (cnt d).of 1 = (x : Int)) : (U.encs (P ++ d)).length = a + x := by
  have h : U.AllR ((P ++ d) ++ q) := by rw [List.append_assoc, ← hR]; exact hA
  have h1 := n_B (all_of_app h).1
  have h2 := n_B (all_of_app (all_of_app h).1).1
  rw [cnt_app_of, h2, hd, ha] at h1
  omega
theorem nd_B {R P d q : List Int} {x : Nat} (hA : U.AllR R) (hR : R = P ++ (d ++ q)) (hd : (cnt d).of 1 = (x : Int)) : (U.encs d).length = x := by
  have h : U.AllR (P ++ (d ++ q)) := hR ▸ hA
  have h1 := n_B (all_of_app (all_of_app h).2).1
  rw [hd] at h1
  omega
section
attribute [local go_sem] add_mk
set_option maxHeartbeats 16000000 in
theorem plays_B {R : List Int} {l : List PT} {v1 v2 : Value} {n1 n2 : Nat} {w : World} (hR : U.AllR R) (hbl : bl R ≤ 8000) (hs1 : Sl w 1 v1 n1 (u8s (U.encs R))) (hs2 : Sl w 3 v2 n2 (opv l)) (hg : ∀ p ∈ l, p.Good) (hw : was l = (cnt R).of 1) (hpl : plen l ≤ 100000) (hn : n2 ≤ 100000) :
    Calls Tryz.prog 117 #[v1, v2, .func (.func 118) #[] #[], .func (.func 119) #[] #[]] w (PlPost_B R l w) := by
  have hln : l.length = n2 := by have := hs2.len; rw [opv_length] at this; omega
  have HS1 := Hd.mk hs1
  have HS2 := Hd.mk hs2
  have HG := Hd.mk hg
  have HA := Hd.mk hR
  have HBL := Hd.mk hbl
  have HLN := Hd.mk hln
  have HPL := Hd.mk hpl
  obtain ⟨A1, c1, rfl, -, hq3, hq4, hq5, hq6⟩ := hs1
  unfold maxLen at hq4
  have HQ6 := Hd.mk hq6
  clear hq6
  have HN1 : Hd ((U.encs R).length = n1) := ⟨by have := HS1.out.len; rw [len_B] at this; omega⟩
  have HST := Hd.mk (PlI.start hw)
  obtain ⟨A2, c2, rfl, -⟩ := hs2
  clear hR hbl hg hw hpl
  go_enter Tryz.func117, Tryz.ntmps117
  go_wp2_with fail
  go_loopw [10, 11, 17] (fun out av iv wr => ∃ (k a : Nat) (P Q T : List Int), iv = .int .i64 (k : Int) ∧ av = .int .i64 (a : Int) ∧ (U.encs P).length = a ∧ wr.ownsRow w.heap.size 5 1 out (U.encs T).length (u8s (U.encs T)) ∧ Below w.heap.size w wr ∧ PlI R 1 l k P Q T) (fun _ _ iv _ => n2 - (intOf iv).toNat)
  case atStart => exact ⟨0, 0, [], R, [], rfl, rfl, rfl, World.ownsRow_nil _ _ _ _, Below.refl _ _, HST.out⟩
  case round =>
    obtain ⟨k, a, P, Q, T, rfl, rfl, hap, hown, hbel, hI⟩ := hrel
    have HB := Hd.mk hbel
    have HOW := Hd.mk hown
    have HI := Hd.mk hI
    obtain ⟨Ao, co, rfl⟩ := own_form hown
    have hsz := hbel.size
    have hkle : k ≤ n2 := by have := hI.k_le; have := HLN.out; omega
    have hRP : R = P ++ Q := hI.eq
    have hallP : U.AllR P := (all_of_app (hRP ▸ HA.out)).1
    have hofP : (cnt P).of 1 = (a : Int) := by rw [n_B hallP, hap]
    have haR : a ≤ n1 := by
      have h1 := HN1.out
      have h2 : u8s (U.encs R) = u8s (U.encs P) ++ u8s (U.encs Q) := by rw [hRP, app_B]
      have h3 := congrArg List.length h2
      rw [List.length_append, len_B, len_B, len_B] at h3
      omega
    have hn1 : n1 ≤ 40000 := by
      have h1 := n_B HA.out
      have h2 := of_le (rs := R) (n := bl R) (bl_len R) 1
      have := HBL.out
      have := HN1.out
      omega
    by_cases hkn : k < n2
    · have hkl : k < l.length := by have := HLN.out; omega
      obtain ⟨b0, o0, c0, hv, hlt, y0, y1, y2⟩ := (HS2.out.below hbel).part hkn hkl
      cases hv
      have hgk := HG.out _ (List.getElem_mem hkl)
      obtain ⟨rs, hsp⟩ := hgk.2
      have hput : l[k].put = U.encs rs := by have := hsp.eq; rwa [List.append_nil] at this
      have hal := hsp.all
      have hrsl : bl rs ≤ 100000 := by
        have h1 := plen_mem' (List.getElem_mem hkl)
        have h2 := HPL.out
        have h3 : (U.encs rs).length = bl rs := rfl
        rw [hput] at h1
        omega
      have HRS := Hd.mk (And.intro hal hrsl)
      have hTl : bl T ≤ 108000 := by
        have h1 := hI.siz
        have h2 := HPL.out
        have h3 := HBL.out
        have h4 : bl P ≤ bl R := by rw [hRP, bl_append]; omega
        omega
      have hTn : (U.encs T).length ≤ 432000 := by
        have h2 := bl_len T
        have h3 : (U.encs T).length = bl T := rfl
        omega
      have HTN := Hd.mk hTn
      obtain ⟨x, hx⟩ : ∃ x : Nat, (x : Int) = l[k].keep + l[k].drop := ⟨(l[k].keep + l[k].drop).toNat, by have := hgk.1.2; omega⟩
      have hxr : a + x ≤ n1 := by
        have h1 := hI.rest
        rw [tn_drop hkl, was] at h1
        have h2 := was_nn fun p hp => (HG.out p (List.mem_of_mem_drop (i := k + 1) hp)).1
        have h3 : (cnt R).of 1 = (cnt P).of 1 + (cnt Q).of 1 := by rw [hRP, cnt_app_of]
        have h4 := n_B HA.out
        have h5 := HN1.out
        omega
      have HBADP : Hd (bad_B R a = false) := ⟨(bad_iff_B HA.out (by have := HN1.out; omega)).2 ⟨P, Q, hRP, hofP⟩⟩
      have HSTOP : Hd (bad_B R (a + x) = true → (tnF R 1 1 Cn.zero 0 l).2 = 10) := ⟨fun hb => HI.out.stop (by decide) HG.out hkl (fun d q e e2 => by
        have : bad_B R (a + x) = false := (bad_iff_B HA.out (by have := HN1.out; omega)).2 ⟨P ++ d, q, by rw [HI.out.eq, e, List.append_assoc], by rw [cnt_app_of, hofP, e2]; omega⟩
        rw [this] at hb; cases hb)⟩
      have HGO : Hd (bad_B R (a + x) = false → ∃ d q, R = P ++ (d ++ q) ∧ (cnt d).of 1 = x ∧ PlI R 1 l (k + 1) (P ++ d) q (T ++ (kept l[k] d ++ rs))) := ⟨fun hb => by
        obtain ⟨p, q, e1, e2⟩ := (bad_iff_B HA.out (by have := HN1.out; omega)).1 hb
        obtain ⟨d, q', rfl, -, e4⟩ := pl_behind (u := 1) (a := (a : Int)) (n := (x : Int)) (P := P) (Q := Q) (c := cnt p) hofP (by omega) (by decide) ⟨p, q, by rw [← hRP]; exact e1, by rw [e2]; omega, rfl⟩
        exact ⟨d, q', hRP, e4, HI.out.step (by decide) HG.out hkl (by rw [e4, hx]) hput hal⟩⟩
      have harg := hgk.1
      have HAP := Hd.mk hap
      clear hown hbel hI HI hRP hallP hofP hgk hsp hal hrsl hTl hTn hap
      generalize l[k] = p at *
      rcases harg.cases with ⟨b, hb, rfl⟩ | ⟨d9, hd9, rfl⟩ | ⟨d9, hd9, rfl⟩
      · subst hput
        obtain rfl : x = 0 := by dsimp only at hx; omega
        dsimp only at y0 y1 y2 hx
        have HPB : Hd (PlS_B w wr.heap.size 0 0 ⟨(U.encs rs).toArray⟩ (wr.alloc (.cells #[.int .i64 0, .int .i64 0, .string ⟨(U.encs rs).toArray⟩] 113))) := ⟨⟨ex_alloc HB.out _, Blk.new _ _ _⟩⟩
        have HOWB := Hd.mk (HOW.out.alloc (.cells #[.int .i64 0, .int .i64 0, .string ⟨(U.encs rs).toArray⟩] 113))
        have HOB : Hd ((Value.slice Ao (U.encs T).length co).ownBlock ≠ some wr.heap.size) := ⟨fun e => by have := (HOW.out.lt _ e).2; omega⟩
        have hbad : bad_B R (a + 0) = false := HBADP.out
        obtain ⟨d, q, HRE, HDX, HNX⟩ := HGO.out hbad
        have HNEXT : Hd ((U.encs (P ++ d)).length = a ∧ PlI R 1 l (k + 1) (P ++ d) q (T ++ rs)) := ⟨nlen_B HA.out HRE HAP.out HDX, by have h := HNX; unfold kept at h; rw [if_neg (by dsimp only; omega)] at h; exact h⟩
        clear HRE HDX HNX hbad harg
        have hw1 : IntKind.i64.wrap ((a : Int) + 0) = (a : Int) := by rw [IntKind.wrap_i64] <;> omega
        have hac : (a : Int) ≤ (c1 : Int) := by omega
        have hw2 : IntKind.i64.wrap (a : Int) = (a : Int) := by rw [IntKind.wrap_i64] <;> omega
        go_wp2_with (go_at_call 119; refine (in_B (HS1.out.below (ex_alloc HB.out _)) HA.out (by omega) haR).mono ?_; rintro e w5 ⟨rfl, rfl⟩; rw [HBADP.out])
        generalize wr.alloc (.cells #[.int .i64 0, .int .i64 0, .string ⟨(U.encs rs).toArray⟩] 113) = wb at HPB HOWB ⊢
        generalize wr.heap.size = bx at HPB HOB ⊢
        have hx0 := HPB.out.drew.x
        have HPUT := Hd.mk (fun W => putB_calls HRS.out.1 W (by have := HRS.out.2; omega))
        have HB63 : Hd ((U.encs T).length + (U.encs rs).length ≤ maxLen ∧ ((U.encs T).length + (U.encs rs).length) * 1 ≤ 140737488355328) := ⟨by
          have h1 := HTN.out
          have h2 : (U.encs rs).length ≤ 400000 := by have h3 := bl_len rs; have h4 := HRS.out.2; have h5 : (U.encs rs).length = bl rs := rfl; omega
          unfold maxLen; omega⟩
        clear y0 y1 y2 hlt
        have ha0 : (0 : Int) ≤ (a : Int) := by omega
        rcases A1 with _ | ⟨b1, o1, p1⟩
        · clear hq5
          go_region_held3 (fun w' => PlX_B w bx 0 0 ⟨(U.encs rs).toArray⟩ w')
            (first | exact HPB.out.drew.x | exact (PlS_B.call (And.left (by assumption)) (by assumption)).x | exact (PlS_B.app (And.left (by assumption)) (by assumption) (by assumption) HOB.out).x | assumption)
            (first
              | (refine step_sl0 el_B (by first | exact HOWB.out.drew | exact own_below HOWB.out.drew (by assumption)) rfl rfl rfl rfl ?_)
              | (refine step_sl el_B (u8s (U.encs rs)) v8 (by first | exact HOWB.out.drew | exact own_below HOWB.out.drew (by assumption)) hs8 rfl rfl rfl rfl (one_B rs) HB63.out.1 HB63.out.2 (PlS_B.below (And.left (by assumption))).size ?_; intro v9 w9 hown9 hbel9 hgr9 hnew9)
              | (go_at_call 118; refine (HPUT.out _).mono ?_; rintro e w8 ⟨hb8, v8, rfl, hs8⟩)
            )
          all_goals
            have HO9 := Hd.mk hown9
            have HB9 := Hd.mk ((HPB.out.drew.call hb8).below.trans hbel9)
            clear hown9 hbel9 hgr9 hnew9 hb8 hs8
            go_wp2_with fail
            exact ⟨⟨k + 1, _, P ++ d, q, T ++ rs, by go_num, rfl, HNEXT.out.1, by rw [app_B]; have h := HO9.out; rwa [show (U.encs T).length + (U.encs rs).length = (U.encs (T ++ rs)).length by rw [← len_B, ← len_B, ← len_B, app_B, List.length_append]] at h, HB9.out, HNEXT.out.2⟩, by simp only [intOf]; omega⟩
        · by_cases hca : c1 = a
          · subst hca
            go_region_held3 (fun w' => PlX_B w bx 0 0 ⟨(U.encs rs).toArray⟩ w')
              (first | exact HPB.out.drew.x | exact (PlS_B.call (And.left (by assumption)) (by assumption)).x | exact (PlS_B.app (And.left (by assumption)) (by assumption) (by assumption) HOB.out).x | assumption)
              (first
                | (refine step_sl0 el_B (by first | exact HOWB.out.drew | exact own_below HOWB.out.drew (by assumption)) rfl rfl rfl rfl ?_)
                | (refine step_sl el_B (u8s (U.encs rs)) v8 (by first | exact HOWB.out.drew | exact own_below HOWB.out.drew (by assumption)) hs8 rfl rfl rfl rfl (one_B rs) HB63.out.1 HB63.out.2 (PlS_B.below (And.left (by assumption))).size ?_; intro v9 w9 hown9 hbel9 hgr9 hnew9)
                | (go_at_call 118; refine (HPUT.out _).mono ?_; rintro e w8 ⟨hb8, v8, rfl, hs8⟩)
              )
            all_goals
              have HO9 := Hd.mk hown9
              have HB9 := Hd.mk ((HPB.out.drew.call hb8).below.trans hbel9)
              clear hown9 hbel9 hgr9 hnew9 hb8 hs8
              go_wp2_with fail
              exact ⟨⟨k + 1, _, P ++ d, q, T ++ rs, by go_num, rfl, HNEXT.out.1, by rw [app_B]; have h := HO9.out; rwa [show (U.encs T).length + (U.encs rs).length = (U.encs (T ++ rs)).length by rw [← len_B, ← len_B, ← len_B, app_B, List.length_append]] at h, HB9.out, HNEXT.out.2⟩, by simp only [intOf]; omega⟩
          · skip
            go_region_held3 (fun w' => PlX_B w bx 0 0 ⟨(U.encs rs).toArray⟩ w')
              (first | exact HPB.out.drew.x | exact (PlS_B.call (And.left (by assumption)) (by assumption)).x | exact (PlS_B.app (And.left (by assumption)) (by assumption) (by assumption) HOB.out).x | assumption)
              (first
                | (refine step_sl0 el_B (by first | exact HOWB.out.drew | exact own_below HOWB.out.drew (by assumption)) rfl rfl rfl rfl ?_)
                | (refine step_sl el_B (u8s (U.encs rs)) v8 (by first | exact HOWB.out.drew | exact own_below HOWB.out.drew (by assumption)) hs8 rfl rfl rfl rfl (one_B rs) HB63.out.1 HB63.out.2 (PlS_B.below (And.left (by assumption))).size ?_; intro v9 w9 hown9 hbel9 hgr9 hnew9)
                | (go_at_call 118; refine (HPUT.out _).mono ?_; rintro e w8 ⟨hb8, v8, rfl, hs8⟩)
              )
            all_goals
              have HO9 := Hd.mk hown9
              have HB9 := Hd.mk ((HPB.out.drew.call hb8).below.trans hbel9)
              clear hown9 hbel9 hgr9 hnew9 hb8 hs8
              go_wp2_with fail
              exact ⟨⟨k + 1, _, P ++ d, q, T ++ rs, by go_num, rfl, HNEXT.out.1, by rw [app_B]; have h := HO9.out; rwa [show (U.encs T).length + (U.encs rs).length = (U.encs (T ++ rs)).length by rw [← len_B, ← len_B, ← len_B, app_B, List.length_append]] at h, HB9.out, HNEXT.out.2⟩, by simp only [intOf]; omega⟩
      · have hrs0 : rs = [] := by
          by_cases e : rs = []
          · exact e
          · exact absurd hput.symm (encs_ne e)
        subst hrs0
        obtain rfl : x = d9 := by dsimp only at hx; omega
        clear hput
        dsimp only at y0 y1 y2 hx
        have HPB : Hd (PlS_B w wr.heap.size 0 (x : Int) ⟨#[]⟩ (wr.alloc (.cells #[.int .i64 0, .int .i64 (x : Int), .string ⟨#[]⟩] 113))) := ⟨⟨ex_alloc HB.out _, Blk.new _ _ _⟩⟩
        have HOWB := Hd.mk (HOW.out.alloc (.cells #[.int .i64 0, .int .i64 (x : Int), .string ⟨#[]⟩] 113))
        have HOB : Hd ((Value.slice Ao (U.encs T).length co).ownBlock ≠ some wr.heap.size) := ⟨fun e => by have := (HOW.out.lt _ e).2; omega⟩
        clear hx
        have hn0 : 0 < n1 := by omega
        obtain ⟨b1, o1, rfl⟩ := HS1.out.addr1 hn0
        have hw1 : IntKind.i64.wrap ((a : Int) + (x : Int)) = (a : Int) + (x : Int) := by rw [IntKind.wrap_i64] <;> omega
        have hw2 : IntKind.i64.wrap (a : Int) = (a : Int) := by rw [IntKind.wrap_i64] <;> omega
        have hw3 : IntKind.i64.wrap ((a : Int) + 0) = (a : Int) := by rw [IntKind.wrap_i64] <;> omega
        have hac : (a : Int) ≤ (c1 : Int) := by omega
        have ha0 : (0 : Int) ≤ (a : Int) := by omega
        have hca : ¬ c1 = a := by omega
        have hxa : ((a : Int) + (x : Int)) = ((a + x : Nat) : Int) := by omega
        have HXA := Hd.mk hxa
        clear hxa
        by_cases hbad : bad_B R (a + x) = true
        · have HE := Hd.mk (HSTOP.out hbad)
          have HBT := Hd.mk hbad
          clear hbad harg
          go_wp2_with (first
            | (go_at_call_of 119 (Value.int .i64 (a : Int)); refine (in_B (HS1.out.below (ex_alloc HB.out _)) HA.out (by omega) haR).mono ?_; rintro e w5 ⟨rfl, rfl⟩; rw [HBADP.out])
            | (go_at_call 119; rw [HXA.out]; refine (in_B (HS1.out.below (ex_alloc HB.out _)) HA.out (by omega) hxr).mono ?_; rintro e w5 ⟨rfl, rfl⟩; rw [HBT.out]))
          go_ret2
          exact ⟨ex_alloc HB.out _, .inr ⟨HE.out, rfl⟩⟩
        · have hbad : bad_B R (a + x) = false := by simpa using hbad
          have HBF := Hd.mk hbad
          obtain ⟨d, q, HRE, HDX, HNX⟩ := HGO.out hbad
          have HNEXT : Hd ((U.encs (P ++ d)).length = a + x ∧ PlI R 1 l (k + 1) (P ++ d) q T) := ⟨nlen_B HA.out HRE HAP.out HDX, by have h := HNX; unfold kept at h; rw [if_neg (by dsimp only; omega), List.append_nil, List.append_nil] at h; exact h⟩
          clear HRE HDX HNX hbad harg
          go_wp2_with (first
            | (go_at_call_of 119 (Value.int .i64 (a : Int)); refine (in_B (HS1.out.below (ex_alloc HB.out _)) HA.out (by omega) haR).mono ?_; rintro e w5 ⟨rfl, rfl⟩; rw [HBADP.out])
            | (go_at_call 119; rw [HXA.out]; refine (in_B (HS1.out.below (ex_alloc HB.out _)) HA.out (by omega) hxr).mono ?_; rintro e w5 ⟨rfl, rfl⟩; rw [HBF.out]))
          generalize wr.alloc (.cells #[.int .i64 0, .int .i64 (x : Int), .string ⟨#[]⟩] 113) = wb at HPB HOWB ⊢
          generalize wr.heap.size = bx at HPB HOB ⊢
          have hx0 := HPB.out.drew.x
          have HPUT : Hd (∀ W, Calls Tryz.prog 118 #[.string ⟨#[]⟩] W fun e w' => Below W.heap.size W w' ∧ ∃ A c, e = .returned (.slice A 0 c)) := ⟨fun W => by
            refine (putB_calls (rs := []) (fun r hr => by cases hr) W (by decide)).mono ?_
            rintro e w' ⟨hb, v, rfl, A, c, rfl, -⟩
            exact ⟨hb, A, c, rfl⟩⟩
          clear y0 y1 y2 hlt
          have hax : (a : Int) + (x : Int) ≤ (c1 : Int) := by omega
          have hax0 : (0 : Int) ≤ (a : Int) + (x : Int) := by omega
          have haxn : ((a : Int) + (x : Int)).toNat = a + x := by omega
          go_region_held3 (fun w' => PlX_B w bx 0 (x : Int) ⟨#[]⟩ w')
            (first | exact HPB.out.drew.x | exact (PlS_B.call (And.left (by assumption)) (by assumption)).x | exact (PlS_B.app (And.left (by assumption)) (by assumption) (by assumption) HOB.out).x | assumption)
            (first
              | (refine step_sl0 el_B (by first | exact HOWB.out.drew | exact own_below HOWB.out.drew (by assumption)) rfl rfl rfl rfl ?_)
              | (go_at_call 118; refine (HPUT.out _).mono ?_; rintro e w8 ⟨hb8, A8, c8, rfl⟩)
            )
          all_goals
            have HO9 := Hd.mk (own_below HOWB.out.drew hb8)
            have HB9 := Hd.mk (HPB.out.drew.call hb8).below
            clear hb8
            go_wp2_with fail
            exact ⟨⟨k + 1, a + x, P ++ d, q, T, by go_num, by go_num, HNEXT.out.1, HO9.out, HB9.out, HNEXT.out.2⟩, by simp only [intOf]; omega⟩
      · have hrs0 : rs = [] := by
          by_cases e : rs = []
          · exact e
          · exact absurd hput.symm (encs_ne e)
        subst hrs0
        obtain rfl : x = d9 := by dsimp only at hx; omega
        clear hput
        dsimp only at y0 y1 y2 hx
        have HPB : Hd (PlS_B w wr.heap.size (x : Int) 0 ⟨#[]⟩ (wr.alloc (.cells #[.int .i64 (x : Int), .int .i64 0, .string ⟨#[]⟩] 113))) := ⟨⟨ex_alloc HB.out _, Blk.new _ _ _⟩⟩
        have HOWB := Hd.mk (HOW.out.alloc (.cells #[.int .i64 (x : Int), .int .i64 0, .string ⟨#[]⟩] 113))
        have HOB : Hd ((Value.slice Ao (U.encs T).length co).ownBlock ≠ some wr.heap.size) := ⟨fun e => by have := (HOW.out.lt _ e).2; omega⟩
        clear hx
        have hn0 : 0 < n1 := by omega
        obtain ⟨b1, o1, rfl⟩ := HS1.out.addr1 hn0
        have hw1 : IntKind.i64.wrap ((a : Int) + (x : Int)) = (a : Int) + (x : Int) := by rw [IntKind.wrap_i64] <;> omega
        have hw2 : IntKind.i64.wrap (a : Int) = (a : Int) := by rw [IntKind.wrap_i64] <;> omega
        have hw3 : IntKind.i64.wrap ((a : Int) + 0) = (a : Int) := by rw [IntKind.wrap_i64] <;> omega
        have hac : (a : Int) ≤ (c1 : Int) := by omega
        have ha0 : (0 : Int) ≤ (a : Int) := by omega
        have hca : ¬ c1 = a := by omega
        have hxa : ((a : Int) + (x : Int)) = ((a + x : Nat) : Int) := by omega
        have HXA := Hd.mk hxa
        clear hxa
        by_cases hbad : bad_B R (a + x) = true
        · have HE := Hd.mk (HSTOP.out hbad)
          have HBT := Hd.mk hbad
          clear hbad harg
          go_wp2_with (first
            | (go_at_call_of 119 (Value.int .i64 (a : Int)); refine (in_B (HS1.out.below (ex_alloc HB.out _)) HA.out (by omega) haR).mono ?_; rintro e w5 ⟨rfl, rfl⟩; rw [HBADP.out])
            | (go_at_call 119; rw [HXA.out]; refine (in_B (HS1.out.below (ex_alloc HB.out _)) HA.out (by omega) hxr).mono ?_; rintro e w5 ⟨rfl, rfl⟩; rw [HBT.out]))
          go_ret2
          exact ⟨ex_alloc HB.out _, .inr ⟨HE.out, rfl⟩⟩
        · have hbad : bad_B R (a + x) = false := by simpa using hbad
          have HBF := Hd.mk hbad
          obtain ⟨d, q, HRE, HDX, HNX⟩ := HGO.out hbad
          have HNEXT : Hd ((U.encs (P ++ d)).length = a + x ∧ PlI R 1 l (k + 1) (P ++ d) q (T ++ d)) := ⟨nlen_B HA.out HRE HAP.out HDX, by have h := HNX; unfold kept at h; rw [if_pos (by dsimp only; omega), List.append_nil] at h; exact h⟩
          have HND : Hd ((U.encs d).length = x) := ⟨nd_B HA.out HRE HDX⟩
          have HSEG : Hd (∀ W, Below w.heap.size w W → Sl W 1 (.slice (some ⟨b1, o1 + a, none⟩) x (c1 - a)) x (u8s (U.encs d))) := ⟨fun W hb => by
            have h := (seg_B (HS1.out.below hb) HRE HAP.out).1
            rwa [HND.out] at h⟩
          have HB63 : Hd ((U.encs T).length + x ≤ maxLen ∧ ((U.encs T).length + x) * 1 ≤ 140737488355328) := ⟨by
            have h1 := HTN.out
            have h2 : x ≤ 400000 := by omega
            unfold maxLen; omega⟩
          clear HRE HDX HNX hbad harg
          go_wp2_with (first
            | (go_at_call_of 119 (Value.int .i64 (a : Int)); refine (in_B (HS1.out.below (ex_alloc HB.out _)) HA.out (by omega) haR).mono ?_; rintro e w5 ⟨rfl, rfl⟩; rw [HBADP.out])
            | (go_at_call 119; rw [HXA.out]; refine (in_B (HS1.out.below (ex_alloc HB.out _)) HA.out (by omega) hxr).mono ?_; rintro e w5 ⟨rfl, rfl⟩; rw [HBF.out]))
          generalize wr.alloc (.cells #[.int .i64 (x : Int), .int .i64 0, .string ⟨#[]⟩] 113) = wb at HPB HOWB ⊢
          generalize wr.heap.size = bx at HPB HOB ⊢
          have hx0 := HPB.out.drew.x
          have HPUT : Hd (∀ W, Calls Tryz.prog 118 #[.string ⟨#[]⟩] W fun e w' => Below W.heap.size W w' ∧ ∃ A c, e = .returned (.slice A 0 c)) := ⟨fun W => by
            refine (putB_calls (rs := []) (fun r hr => by cases hr) W (by decide)).mono ?_
            rintro e w' ⟨hb, v, rfl, A, c, rfl, -⟩
            exact ⟨hb, A, c, rfl⟩⟩
          clear y0 y1 y2 hlt
          have hax : (a : Int) + (x : Int) ≤ (c1 : Int) := by omega
          have hax0 : (0 : Int) ≤ (a : Int) + (x : Int) := by omega
          have haxn : ((a : Int) + (x : Int)).toNat = a + x := by omega
          go_region_held3 (fun w' => PlX_B w bx (x : Int) 0 ⟨#[]⟩ w')
            (first | exact HPB.out.drew.x | exact (PlS_B.call (And.left (by assumption)) (by assumption)).x | exact (PlS_B.app (And.left (by assumption)) (by assumption) (by assumption) HOB.out).x | assumption)
            (first
              | (refine step_sl el_B (u8s (U.encs d)) (.slice (some ⟨b1, o1 + a, none⟩) x (c1 - a)) (by first | exact HOWB.out.drew | exact own_below HOWB.out.drew (by assumption)) (HSEG.out _ (PlS_B.below (And.left (by assumption)))) rfl rfl rfl rfl (one_B d) HB63.out.1 HB63.out.2 (PlS_B.below (And.left (by assumption))).size ?_; intro v9 w9 hown9 hbel9 hgr9 hnew9)
              | (refine step_sl0 el_B (by first | exact hown9 | exact own_below hown9 (by assumption)) rfl rfl rfl rfl ?_)
              | (go_at_call 118; refine (HPUT.out _).mono ?_; rintro e w8 ⟨hb8, A8, c8, rfl⟩)
            )
          all_goals
            have HO9 : Hd (w8.ownsRow w.heap.size 5 1 v9 ((U.encs T).length + x) (u8s (U.encs T) ++ u8s (U.encs d)) ∨ w9.ownsRow w.heap.size 5 1 v9 ((U.encs T).length + x) (u8s (U.encs T) ++ u8s (U.encs d))) := ⟨.inr hown9⟩
            first
            | (have HB9 := Hd.mk ((HPB.out.drew.call hb8).below.trans hbel9); have HO8 := Hd.mk hown9; clear hb8 hown9 hbel9 hgr9 hnew9 HO9; go_wp2_with fail; exact ⟨⟨k + 1, a + x, P ++ d, q, T ++ d, by go_num, by go_num, HNEXT.out.1, by rw [app_B]; have h := HO8.out; rwa [show (U.encs T).length + x = (U.encs (T ++ d)).length by rw [← HND.out, ← len_B, ← len_B, ← len_B, app_B, List.length_append]] at h, HB9.out, HNEXT.out.2⟩, by simp only [intOf]; omega⟩)
            | (have HB9 := Hd.mk (bstep (HPB.out.drew.below.trans hbel9) hb8); have HO8 := Hd.mk (own_below hown9 hb8); clear hb8 hown9 hbel9 hgr9 hnew9 HO9; go_wp2_with fail; exact ⟨⟨k + 1, a + x, P ++ d, q, T ++ d, by go_num, by go_num, HNEXT.out.1, by rw [app_B]; have h := HO8.out; rwa [show (U.encs T).length + x = (U.encs (T ++ d)).length by rw [← HND.out, ← len_B, ← len_B, ← len_B, app_B, List.length_append]] at h, HB9.out, HNEXT.out.2⟩, by simp only [intOf]; omega⟩)
    · obtain rfl : k = n2 := by omega
      obtain ⟨f1, X, f2, f3⟩ := hI.finish (by decide) HLN.out.symm
      subst f3
      have HF := Hd.mk (And.intro f1 f2)
      have HS9 := Hd.mk (Sl.of_own hown)
      have HF9 := Hd.mk (Frs.of_own hown)
      clear hown hbel hI f1 f2 hRP hallP hofP hap
      go_wp2_with (go_at_call 154; refine (clip_B HS9.out).mono ?_; rintro e w9 ⟨⟨v9, rfl, hs9, hf9⟩, rfl⟩; have HS10 := Hd.mk hs9; have HF10 := Hd.mk (hf9 _ HF9.out); clear hs9 hf9)
      go_ret2
      exact ⟨HB.out, .inl ⟨_, X, HF.out.1, HF.out.2, rfl, HS10.out, HF10.out⟩⟩
end
end Go.Proofs.YtdgdajnbkfmijaaGreatDoor
/- A room in plain Lean: how much can be lost, and taken; what is played. -/
namespace Go.Proofs.YtdgdajnbkfmijaaGreatDoor
open Go.RowKit
set_option maxRecDepth 100000
def RM.pot (r : RM) : Int := (r.srv.tk : Int) + r.lost + (wts r.way : Int)
theorem RM.send_pot (r : RM) (p : PK) : (r.send p).pot ≤ r.pot + (p.wt : Int) ∧ r.lost ≤ (r.send p).lost := by
  have hp := p.wt_le
  unfold RM.pot RM.send
  split
  · exact ⟨by dsimp only; omega, by dsimp only; omega⟩
  · refine ⟨?_, Int.le_refl _⟩
    dsimp only
    rw [wts_append, wts_cons]
    simp only [wts, List.map_nil, List.sum_nil]
    omega
theorem RM.sends_pot (r : RM) (l : List PK) : (r.sends l).pot ≤ r.pot + (wts l : Int) ∧ r.lost ≤ (r.sends l).lost := by
  induction l generalizing r with
  | nil => exact ⟨by simp [RM.sends, wts], Int.le_refl _⟩
  | cons p l ih =>
    have h1 := ih (r.send p)
    have h2 := r.send_pot p
    have e : r.sends (p :: l) = (r.send p).sends l := rfl
    rw [e, wts_cons]
    omega
theorem RM.tells_pot (r : RM) (k : Nat) (rev : Int) : (r.tells k rev).pot ≤ r.pot + (r.srv.log.length : Int) ∧ r.lost ≤ (r.tells k rev).lost := by
  unfold RM.tells
  split
  · have := r.sends_pot (tolds k rev.toNat (r.srv.log.drop rev.toNat))
    rw [(tolds_wt _ _ _).1, List.length_drop] at this
    omega
  · omega
theorem wts_erase {l : List PK} {i : Nat} {p : PK} (h : l[i]? = some p) : wts (l.eraseIdx i) + p.wt = wts l := by
  induction l generalizing i with
  | nil => simp at h
  | cons q l ih =>
    cases i with
    | zero =>
      simp at h
      subst h
      rw [List.eraseIdx_cons_zero, wts_cons]
      omega
    | succ i =>
      have := ih (i := i) (by simpa using h)
      rw [List.eraseIdx_cons_succ, wts_cons, wts_cons]
      omega
theorem RM.setc_pot (r : RM) (k : Nat) (c : CV) : (r.setc k c).pot = r.pot ∧ (r.setc k c).lost = r.lost := ⟨rfl, rfl⟩
theorem RM.out_pot {r : RM} {i : Nat} {p : PK} (h : r.way[i]? = some p) : (r.out i).pot + (p.wt : Int) = r.pot ∧ (r.out i).lost = r.lost := by
  have := wts_erase h
  unfold RM.pot RM.out
  dsimp only
  omega
theorem RMok.comes_pot {N : Int} {r : RM} (h : RMok N r) {p : PK} {c : CV} (hc : r.cl[p.k]? = some c) (hp : PKok r.srv c p) : (r.comes p).pot ≤ r.pot + (p.wt : Int) ∧ r.lost ≤ (r.comes p).lost := by
  have hln := h.ln
  have hpw := p.wt_le
  unfold RM.comes
  split
  · rename_i hk
    have h1 := (h.served (p := p) (c := c) hc hp hk).ln
    have h2 := RM.tells_pot { r with srv := (r.srv.take p.k p.id p.rev p.en.op).2 } p.k p.rev
    have h4 := r.srv.take_tk' p.k p.id p.rev p.en.op
    have e2 : p.wt = 1000 := by unfold PK.wt; rw [if_pos (.inl hk)]
    have e5 : RM.pot { r with srv := (r.srv.take p.k p.id p.rev p.en.op).2 } ≤ r.pot + 1 := by unfold RM.pot; dsimp only; omega
    dsimp only at h1 h2 ⊢
    split
    · have h3 := RM.send_pot (RM.tells { r with srv := (r.srv.take p.k p.id p.rev p.en.op).2 } p.k p.rev) ⟨4, p.k, ((r.srv.take p.k p.id p.rev p.en.op).2.log.length : Int), p.id, noEn⟩
      have e3 : (⟨4, p.k, ((r.srv.take p.k p.id p.rev p.en.op).2.log.length : Int), p.id, noEn⟩ : PK).wt = 1 := rfl
      rw [e3] at h3
      omega
    · omega
  split
  · rename_i hk
    have h2 := r.tells_pot p.k p.rev
    have e2 : p.wt = 1000 := by unfold PK.wt; rw [if_pos (.inr hk)]
    omega
  split
  · split
    · obtain ⟨e1, e2⟩ := r.setc_pot p.k (CV.take (by assumption) p.rev p.en)
      omega
    · omega
  split
  · split
    · obtain ⟨e1, e2⟩ := r.setc_pot p.k (CV.refused (by assumption) p.id)
      omega
    · omega
  · omega
theorem RMok.deliver_pot {N : Int} {r : RM} (h : RMok N r) (i : Nat) : (r.deliver i).pot ≤ r.pot ∧ r.lost ≤ (r.deliver i).lost := by
  unfold RM.deliver
  split
  · rename_i p hp
    obtain ⟨c, hc, hpk⟩ := h.way p (List.mem_of_getElem? hp)
    have h1 := (h.out i).comes_pot (p := p) (c := c) hc hpk
    have h2 := RM.out_pot hp
    omega
  · exact ⟨Int.le_refl _, Int.le_refl _⟩
theorem RM.outs_pot (r : RM) (i : Nat) : (r.out i).pot ≤ r.pot ∧ (r.out i).lost = r.lost := by
  cases hp : r.way[i]? with
  | none =>
    have : r.way.eraseIdx i = r.way := List.eraseIdx_of_length_le (List.getElem?_eq_none_iff.1 hp)
    unfold RM.out RM.pot
    rw [this]
    exact ⟨Int.le_refl _, rfl⟩
  | some p => have := RM.out_pot hp; have := p.wt_le; omega
theorem RM.again_pot (r : RM) (i : Nat) : (r.again i).pot ≤ r.pot + 1000 ∧ r.lost ≤ (r.again i).lost := by
  unfold RM.again
  split
  · rename_i p _
    have := r.send_pot p; have := p.wt_le; omega
  · omega
theorem RM.asks_pot (r : RM) (k : Nat) : (r.asks k).pot ≤ r.pot + 1000 ∧ r.lost ≤ (r.asks k).lost := by
  unfold RM.asks
  split
  · rename_i c _
    have := r.send_pot (c.asks k); have := (c.asks k).wt_le; omega
  · omega
theorem RM.edit_pot (r : RM) (k : Nat) (l : List PT) : (r.edit k l).pot = r.pot ∧ (r.edit k l).lost = r.lost := by
  unfold RM.edit
  split <;> exact ⟨rfl, rfl⟩
theorem RMok.flows_pot {N : Int} {r : RM} (h : RMok N r) : r.flows.pot ≤ r.pot ∧ r.lost ≤ r.flows.lost :=
  (h.flows_ind (I := fun x => x.pot ≤ r.pot ∧ r.lost ≤ x.lost) (fun x hx hi _ => by have := hx.deliver_pot 0; omega) ⟨Int.le_refl _, Int.le_refl _⟩).1
theorem RMok.turn_pot {N : Int} {r : RM} (h : RMok N r) (k : Nat) : (r.turn k).pot ≤ r.pot + 1000 ∧ r.lost ≤ (r.turn k).lost := by
  have h1 := (h.asks k).flows_pot
  have h2 := r.asks_pot k
  unfold RM.turn
  omega
theorem RMok.turns_pot {N : Int} {r : RM} (h : RMok N r) (hw : r.way = []) (n : Nat) : (r.turns n).pot ≤ r.pot + n * 1000 ∧ r.lost ≤ (r.turns n).lost := by
  induction n with
  | zero => simp [RM.turns]
  | succ n ih =>
    have h1 := (h.turns hw n).1.turn_pot n
    rw [RM.turns_succ]
    omega
theorem RMok.quiet_pot {N : Int} {r : RM} (h : RMok N r) : r.quiet.pot ≤ r.pot + r.cl.length * 1000 ∧ r.lost ≤ r.quiet.lost := by
  obtain ⟨h1, h2⟩ := h.flows
  have h3 := h.flows_pot
  have h4 := h1.turns_pot h2 r.cl.length
  unfold RM.quiet
  omega
/-- What holds of a room at all times, and how much came of it. -/
structure RMb (N B : Int) (r : RM) : Prop where
  ok : RMok N r
  n8 : r.srv.No8
  l0 : 0 ≤ r.lost
  pot : r.pot ≤ B
theorem RMb.bd {N B : Int} {r : RM} (h : RMb N B r) : r.lost ≤ B ∧ (r.srv.tk : Int) ≤ B := by
  have := h.pot
  have := h.l0
  unfold RM.pot at this
  have := h.pot
  unfold RM.pot at this
  omega
theorem RMb.deliver {N B : Int} {r : RM} (h : RMb N B r) (i : Nat) : RMb N B (r.deliver i) := by
  have h1 := h.ok.deliver_pot i
  have := h.pot; have := h.l0
  exact ⟨h.ok.deliver i, RM.deliver_no8 h.n8 i, by omega, by omega⟩
theorem RMb.asks {N B : Int} {r : RM} (h : RMb N B r) (k : Nat) : RMb N (B + 1000) (r.asks k) := by
  have h1 := r.asks_pot k
  have := h.pot; have := h.l0
  exact ⟨h.ok.asks k, by rw [(r.asks_srv k).1]; exact h.n8, by omega, by omega⟩
theorem RMb.again {N B : Int} {r : RM} (h : RMb N B r) (i : Nat) : RMb N (B + 1000) (r.again i) := by
  have h1 := r.again_pot i
  have := h.pot; have := h.l0
  refine ⟨h.ok.again i, ?_, by omega, by omega⟩
  unfold RM.again
  split
  · rw [(r.send_srv _).1]; exact h.n8
  · exact h.n8
theorem RMb.out {N B : Int} {r : RM} (h : RMb N B r) (i : Nat) : RMb N B (r.out i) := by
  have h1 := r.outs_pot i
  have := h.pot; have := h.l0
  exact ⟨h.ok.out i, h.n8, by omega, by omega⟩
theorem RMb.edit {N B : Int} {r : RM} (h : RMb N B r) (k : Nat) (l : List PT) : RMb (N + 1) B (r.edit k l) := by
  have h1 := r.edit_pot k l
  have := h.pot; have := h.l0
  refine ⟨h.ok.edit k l, ?_, by omega, by omega⟩
  unfold RM.edit
  split <;> exact h.n8
theorem RMb.flows {N B : Int} {r : RM} (h : RMb N B r) : RMb N B r.flows := by
  have h1 := h.ok.flows_pot
  have := h.pot; have := h.l0
  exact ⟨h.ok.flows.1, h.ok.quiet_no8 h.n8, by omega, by omega⟩
theorem RMb.quiet {N B : Int} {r : RM} (h : RMb N B r) : RMb N (B + r.cl.length * 1000) r.quiet := by
  have h1 := h.ok.quiet_pot
  have := h.pot; have := h.l0
  exact ⟨h.ok.quiet.1, (h.ok.quiet_spec h.n8).1, by omega, by omega⟩
theorem RMb.mono {N N' B B' : Int} {r : RM} (h : RMb N B r) (hN : N ≤ N') (hB : B ≤ B') : RMb N' B' r := ⟨h.ok.mono hN, h.n8, h.l0, Int.le_trans h.pot hB⟩
theorem RM.edit_cl (r : RM) (k : Nat) (l : List PT) : (r.edit k l).cl.length = r.cl.length := by
  unfold RM.edit
  split
  · exact List.length_set
  · rfl
theorem RM.again_cl (r : RM) (i : Nat) : (r.again i).srv = r.srv ∧ (r.again i).cl = r.cl := by
  unfold RM.again
  split
  · exact r.send_srv _
  · exact ⟨rfl, rfl⟩
theorem RM.edit_srv (r : RM) (k : Nat) (l : List PT) : (r.edit k l).srv = r.srv := by
  unfold RM.edit
  split <;> rfl
/-- What an act makes of a room; q: a round in which nothing is lost. -/
inductive PlayS (R : RM) : Bool → RM → Prop
  | edit (k : Nat) (l : List PT) (q : Bool) : PlayS R q (R.edit k l)
  | asks (k : Nat) (q : Bool) : PlayS R q (R.asks k)
  | deliver (i : Nat) (q : Bool) : PlayS R q (R.deliver i)
  | out (i : Nat) (q : Bool) : PlayS R q (R.out i)
  | again (i : Nat) (q : Bool) : PlayS R q (R.again i)
  | quiet : PlayS R true R.quiet
  | same (q : Bool) : PlayS R q R
theorem PlayS.ok {R R' : RM} {q : Bool} {N B : Int} (h : PlayS R q R') (hb : RMb N B R) (hc : R.cl.length ≤ 100) : RMb (N + 1) (B + 100000) R' ∧ R'.cl.length = R.cl.length := by
  cases h with
  | edit k l => exact ⟨(hb.edit k l).mono (by omega) (by omega), R.edit_cl k l⟩
  | asks k => exact ⟨(hb.asks k).mono (by omega) (by omega), by rw [(R.asks_srv k).2]⟩
  | deliver i => exact ⟨(hb.deliver i).mono (by omega) (by omega), R.deliver_cl i⟩
  | out i => exact ⟨(hb.out i).mono (by omega) (by omega), rfl⟩
  | again i => exact ⟨(hb.again i).mono (by omega) (by omega), by rw [(R.again_cl i).2]⟩
  | quiet => exact ⟨hb.quiet.mono (by omega) (by omega), hb.ok.quiet.2.2.1⟩
  | same => exact ⟨hb.mono (by omega) (by omega), rfl⟩
/-- The documents that there are behind an act that is no such round. -/
theorem PlayS.docs {R R' : RM} (h : PlayS R false R') : R'.srv.docs = R.srv.docs ∨ ∃ d, R'.srv.docs = R.srv.docs ++ [d] := by
  cases h with
  | edit k l => exact .inl (by rw [R.edit_srv])
  | asks k => exact .inl (by rw [(R.asks_srv k).1])
  | deliver i => exact R.deliver_docs i
  | out i => exact .inl rfl
  | again i => exact .inl (by rw [(R.again_cl i).1])
  | same => exact .inl rfl
end Go.Proofs.YtdgdajnbkfmijaaGreatDoor
