/- Several texts of the proof, one behind the other: ShS, ShA, ShN, ShW. -/
import Derived.Test.YtdgdajnbkfmijaaGreatDoorMRoomMeets11
import Derived.Test.YtdgdajnbkfmijaaGreatDoorMRoomMeets7
import Derived.Test.YtdgdajnbkfmijaaGreatDoorMRoomMeets6
import Derived.Test.YtdgdajnbkfmijaaGreatDoorMRoomMeets19
import Derived.Test.YtdgdajnbkfmijaaGreatDoorMRoomMeets38
import Derived.Test.YtdgdajnbkfmijaaGreatDoorMRoomMeets1
import Derived.BigQuiet
import Derived.Deep.QuietTactic
import Derived.Test.YtdgdajnbkfmijaaGreatDoorMRoomMeets23
import Derived.Test.YtdgdajnbkfmijaaGreatDoorMRoomMeets26
import Derived.Test.YtdgdajnbkfmijaaGreatDoorMRoomMeets33
/- shape.Shape: New, Unit, Len, Text. -/
namespace Go.Proofs.YtdgdajnbkfmijaaGreatDoor
open Go.RowKit
set_option maxRecDepth 100000
/-- The cells of a document in its form. -/
structure ShV (w : World) (u : Int) (R : List Int) (t : U.Bs) (vh vr : Value) : Prop where
  k1 : u = 1 → t = U.encs R ∧ vh = .slice none 0 0 ∧ vr = .slice none 0 0
  k2 : u = 2 → t = [] ∧ Sl w 1 vh (U.hvs R).length (u16s (U.hvs R)) ∧ vr = .slice none 0 0
  k3 : u = 3 → t = [] ∧ vh = .slice none 0 0 ∧ Sl w 1 vr R.length (i32s R)
theorem ShV.below {w w' : World} {u : Int} {R : List Int} {t : U.Bs} {vh vr : Value} (h : ShV w u R t vh vr) (hb : Below w.heap.size w w') : ShV w' u R t vh vr :=
  ⟨h.k1, fun e => ⟨(h.k2 e).1, (h.k2 e).2.1.below hb, (h.k2 e).2.2⟩, fun e => ⟨(h.k3 e).1, (h.k3 e).2.1, (h.k3 e).2.2.below hb⟩⟩
/-- A document of the runes R in a unit, in block f. -/
structure ShS (w : World) (f : Nat) (u : Int) (R : List Int) : Prop where
  all : U.AllR R
  u1 : 1 ≤ u ∧ u ≤ 3
  sz : bl R ≤ 8000
  ex : ∃ t vh vr, Blk w f 196 #[.int .i64 u, .string ⟨t.toArray⟩, vh, vr] ∧ ShV w u R t vh vr
theorem ShS.below {w w' : World} {f : Nat} {u : Int} {R : List Int} (h : ShS w f u R) (hb : Below w.heap.size w w') : ShS w' f u R := by
  obtain ⟨t, vh, vr, hk, hv⟩ := h.ex
  exact ⟨h.all, h.u1, h.sz, t, vh, vr, hk.below hb hk.lt, hv.below hb⟩
/-- A document in block f, its lists from a block on. -/
structure ShF (B : Nat) (w : World) (f : Nat) (u : Int) (R : List Int) : Prop where
  all : U.AllR R
  u1 : 1 ≤ u ∧ u ≤ 3
  sz : bl R ≤ 8000
  ex : ∃ t vh vr, Blk w f 196 #[.int .i64 u, .string ⟨t.toArray⟩, vh, vr] ∧ ShV w u R t vh vr ∧ Frs B vh ∧ Frs B vr
theorem ShF.shs {B : Nat} {w : World} {f : Nat} {u : Int} {R : List Int} (h : ShF B w f u R) : ShS w f u R := by
  obtain ⟨t, vh, vr, a, b, -⟩ := h.ex
  exact ⟨h.all, h.u1, h.sz, t, vh, vr, a, b⟩
theorem ShF.less {B B' : Nat} {w : World} {f : Nat} {u : Int} {R : List Int} (h : ShF B w f u R) (hB : B' ≤ B) : ShF B' w f u R := by
  obtain ⟨t, vh, vr, a, b, c, d⟩ := h.ex
  exact ⟨h.all, h.u1, h.sz, t, vh, vr, a, b, c.mono hB, d.mono hB⟩
theorem four_cells {w : World} {g : Nat} {ty : TypeId} {a b c d : Value} (h : Blk w g ty #[a, b, c, d]) : w.cell? ⟨g, 0, none⟩ = some a ∧ w.cell? ⟨g, 1, none⟩ = some b ∧ w.cell? ⟨g, 2, none⟩ = some c ∧ w.cell? ⟨g, 3, none⟩ = some d := by
  have z0 := h.cell 0
  have z1 := h.cell 1
  have z2 := h.cell 2
  have z3 := h.cell 3
  simp only [List.getElem?_toArray, List.getElem?_cons_zero, List.getElem?_cons_succ] at z0 z1 z2 z3
  exact ⟨z0, z1, z2, z3⟩
theorem unit_calls {w : World} {f : Nat} {u : Int} {R : List Int} (h : ShS w f u R) : Calls Tryz.prog 73 #[.pointer (some ⟨f, 0, none⟩)] w fun e w' => e = .returned (.int .i64 u) ∧ w' = w := by
  obtain ⟨t, vh, vr, hk, hv⟩ := h.ex
  obtain ⟨z0, z1, z2, z3⟩ := four_cells hk
  clear hk hv h
  go_enter Tryz.func73, Tryz.ntmps73
  go_wp2_with fail
  go_ret
  exact ⟨rfl, rfl⟩
/-- How many of its unit it has. -/
theorem len_calls {w : World} {f : Nat} {u : Int} {R : List Int} (h : ShS w f u R) : Calls Tryz.prog 66 #[.pointer (some ⟨f, 0, none⟩)] w fun e w' => e = .returned (.int .i64 ((cnt R).of u)) ∧ Below w.heap.size w w' := by
  obtain ⟨t, vh, vr, hk, hv⟩ := h.ex
  obtain ⟨z0, z1, z2, z3⟩ := four_cells hk
  have hall := h.all
  have hsz := h.sz
  have key : ∃ (th tr : Nat) (Ah Ar : Option Addr) (ch cr : Nat), vh = .slice Ah th ch ∧ vr = .slice Ar tr cr ∧ (t.length : Int) + th + tr = (cnt R).of u ∧ t.length ≤ 100000 ∧ th ≤ 100000 ∧ tr ≤ 100000 := by
    have h3 : u = 1 ∨ u = 2 ∨ u = 3 := by have := h.u1; omega
    have hb := bl_len R
    have hh := U.hvs_len_le R
    have hbe : (U.encs R).length = bl R := rfl
    rcases h3 with rfl | rfl | rfl
    · obtain ⟨rfl, rfl, rfl⟩ := hv.k1 rfl
      exact ⟨0, 0, none, none, 0, 0, rfl, rfl, by rw [of_one_bl]; omega, by omega, by omega, by omega⟩
    · obtain ⟨rfl, ⟨A, c, rfl, -⟩, rfl⟩ := hv.k2 rfl
      have hn : (cnt R).of 2 = ((U.hvs R).length : Nat) := by rw [cnt_full hall]; rfl
      exact ⟨_, 0, A, none, c, 0, rfl, rfl, by rw [hn]; simp, by simp, by omega, by omega⟩
    · obtain ⟨rfl, rfl, A, c, rfl, -⟩ := hv.k3 rfl
      exact ⟨0, _, none, A, 0, c, rfl, rfl, by rw [of_three]; simp, by simp, by omega, by omega⟩
  obtain ⟨th, tr, Ah, Ar, ch, cr, rfl, rfl, hsum, b1, b2, b3⟩ := key
  have HSUM := Hd.mk hsum
  have hw1 : IntKind.i64.wrap ((t.length : Int) + th) = (t.length : Int) + th := by rw [IntKind.wrap_i64] <;> omega
  have hw2 : IntKind.i64.wrap ((t.length : Int) + th + tr) = (t.length : Int) + th + tr := by rw [IntKind.wrap_i64] <;> omega
  clear hk hv h hsum hall hsz
  go_enter Tryz.func66, Tryz.ntmps66
  go_wp2_with fail
  go_quiet (fail)
  go_wp2_with fail
  go_ret
  exact ⟨by rw [← HSUM.out]; rfl, ex_drewN nq (Below.refl _ _)⟩
/-- Text, of a document of any size. -/
theorem shtext_any {w : World} {f : Nat} {u : Int} {R : List Int} {t : U.Bs} {vh vr : Value} (hall : U.AllR R) (hu : 1 ≤ u ∧ u ≤ 3) (hsz : bl R ≤ 1000000) (hk : Blk w f 196 #[.int .i64 u, .string ⟨t.toArray⟩, vh, vr]) (hv : ShV w u R t vh vr) : Calls Tryz.prog 67 #[.pointer (some ⟨f, 0, none⟩)] w fun e w' => e = .returned (.string ⟨(U.encs R).toArray⟩) ∧ Below w.heap.size w w' := by
  obtain ⟨z0, z1, z2, z3⟩ := four_cells hk
  have HALL := Hd.mk hall
  have hb := bl_len R
  have hh := U.hvs_len_le R
  have h3 : u = 1 ∨ u = 2 ∨ u = 3 := by omega
  rcases h3 with rfl | rfl | rfl
  · obtain ⟨rfl, rfl, rfl⟩ := hv.k1 rfl
    clear hk hv
    go_enter Tryz.func67, Tryz.ntmps67
    go_wp2_with fail
    go_ret
    exact ⟨rfl, Below.refl _ _⟩
  · obtain ⟨rfl, hs, rfl⟩ := hv.k2 rfl
    have HT := Hd.mk (fromHalves_calls (w := w) (l := U.hvs R) (pre := R) (rest := []) ⟨hall, by rw [List.append_nil], trivial⟩ (U.hvs_in hall) hs (by omega))
    obtain ⟨A, c, rfl, -⟩ := hs
    clear hk hv
    go_enter Tryz.func67, Tryz.ntmps67
    go_wp2_with fail
    refine HT.out.mono ?_
    rintro e w1 ⟨hb1, hok, -⟩
    obtain rfl := hok rfl
    have HB1 := Hd.mk hb1
    clear hb1 hok
    go_wp2_with fail
    go_ret
    exact ⟨rfl, HB1.out⟩
  · obtain ⟨rfl, rfl, hs⟩ := hv.k3 rfl
    have HT := Hd.mk (text_calls (w := w) (l := R) (pre := R) (rest := []) ⟨hall, by rw [List.append_nil], fun _ _ e => by cases e⟩ hs (by omega))
    obtain ⟨A, c, rfl, -⟩ := hs
    clear hk hv
    go_enter Tryz.func67, Tryz.ntmps67
    go_wp2_with fail
    refine HT.out.mono ?_
    rintro e w1 ⟨hb1, hok, -⟩
    obtain rfl := hok rfl
    have HB1 := Hd.mk hb1
    clear hb1 hok
    go_wp2_with fail
    go_ret
    exact ⟨rfl, HB1.out⟩
theorem shtext_calls {w : World} {f : Nat} {u : Int} {R : List Int} (h : ShS w f u R) : Calls Tryz.prog 67 #[.pointer (some ⟨f, 0, none⟩)] w fun e w' => e = .returned (.string ⟨(U.encs R).toArray⟩) ∧ Below w.heap.size w w' := by
  obtain ⟨t, vh, vr, hk, hv⟩ := h.ex
  exact shtext_any h.all h.u1 (by have := h.sz; omega) hk hv
end Go.Proofs.YtdgdajnbkfmijaaGreatDoor
/- shape.Apply: what it tells; an operation that is refused by ops.Check. -/
namespace Go.Proofs.YtdgdajnbkfmijaaGreatDoor
open Go.RowKit
set_option maxRecDepth 100000
theorem ShV.frs {w w' : World} {S : Nat → Prop} {B : Nat} {u : Int} {R : List Int} {t : U.Bs} {vh vr : Value} (h : ShV w u R t vh vr) (hh : Frs B vh) (hr : Frs B vr) (ho : Only S w w') (hs : ∀ k, S k → k < B) : ShV w' u R t vh vr :=
  ⟨h.k1, fun e => ⟨(h.k2 e).1, (h.k2 e).2.1.frs hh ho hs, (h.k2 e).2.2⟩, fun e => ⟨(h.k3 e).1, (h.k3 e).2.1, (h.k3 e).2.2.frs hr ho hs⟩⟩
theorem tn_bnd {R : List Int} {l : List PT} {u : Int} (hu : 1 ≤ u ∧ u ≤ 3) (hg : ∀ p ∈ l, p.Good) (hw : was l = (cnt R).of u) (hk : (tnF R u 1 Cn.zero 0 l).2 = 0) : comes (tnF R u 1 Cn.zero 0 l).1 ≤ bl R + plen l := by
  have z : ((cnt ([] : List Int)).of u) = 0 := by rw [cnt_nil, of_zero]
  obtain ⟨⟨X, hX⟩, b, -⟩ := tnF_opr (R := R) (P := []) (Q := R) hu rfl hg hw (by rw [z, cnt_nil]; exact hk)
  rw [z, cnt_nil] at hX b
  have h1 := hX.bounds.2
  have h2 := hX.sizes.2
  omega
def ShApPost (f : Nat) (u : Int) (R : List Int) (l : List PT) (w : World) (e : Ending) (w' : World) : Prop :=
  Only (fun k => k = f) w w' ∧ (chk l ((cnt R).of u) ≠ 0 → e = .returned (errno (chk l ((cnt R).of u))) ∧ Below w.heap.size w w') ∧
    (chk l ((cnt R).of u) = 0 → ((tnF R u 1 Cn.zero 0 l).2 = 10 ∧ e = .returned (errno 10) ∧ Below w.heap.size w w') ∨
      ((tnF R u 1 Cn.zero 0 l).2 = 0 ∧ ∃ X, OpR (tnF R u 1 Cn.zero 0 l).1 X R ∧
        ((8000 < bl (rap X R) ∧ e = .returned (errno 12) ∧ Below w.heap.size w w') ∨ (bl (rap X R) ≤ 8000 ∧ e = .returned .nilIface ∧ ShF w.heap.size w' f u (rap X R)))))
set_option maxHeartbeats 4000000 in
theorem shap_chk {R : List Int} {l : List PT} {u : Int} {v2 : Value} {n2 f : Nat} {w : World} (hs : ShS w f u R) (hg : Hdl w) (hs2 : Sl w 3 v2 n2 (opv l)) (hp : ∀ p ∈ l, p.put.length ≤ 35184372087808) (hc : chk l ((cnt R).of u) ≠ 0) :
    Calls Tryz.prog 76 #[.pointer (some ⟨f, 0, none⟩), v2] w (ShApPost f u R l w) := by
  have HLN := Hd.mk (len_calls hs)
  have HS2 := Hd.mk hs2
  have HG := Hd.mk hg
  have HP := Hd.mk hp
  have HC := Hd.mk hc
  obtain ⟨A, c, rfl, -⟩ := hs2
  have h0 := of_nn R u
  have h1 := of_le (rs := R) (n := bl R) (bl_len R) u
  have h2 := hs.sz
  have HM : Hd (-9223372036854775808 ≤ (cnt R).of u ∧ (cnt R).of u ≤ 9223372036854775807) := ⟨by omega⟩
  clear hs hg hp hc h0 h1 h2
  go_enter Tryz.func76, Tryz.ntmps76
  go_wp2_with (first
    | (go_at_call 66; refine HLN.out.mono ?_; rintro e w1 ⟨rfl, hb1⟩; have HB1 := Hd.mk hb1; clear hb1)
    | (go_at_call 92; refine (ocheck_calls (HG.out.below HB1.out) (HS2.out.below HB1.out) HP.out HM.out).mono ?_; rintro e w2 ⟨⟨ev, rfl, -, hev⟩, hb2⟩; rw [show errOf (chk l ((cnt R).of u)) = errno (chk l ((cnt R).of u)) from if_neg HC.out] at hev; obtain rfl := hev; unfold errno; have HB2 := Hd.mk (bstep HB1.out hb2); clear hb2))
  go_ret
  exact ⟨Only.of_below HB2.out, fun _ => ⟨rfl, HB2.out⟩, fun h => absurd h HC.out⟩
end Go.Proofs.YtdgdajnbkfmijaaGreatDoor
/- shape.New. -/
namespace Go.Proofs.YtdgdajnbkfmijaaGreatDoor
open Go.RowKit
set_option maxRecDepth 100000
section
attribute [local go_sem] Cn.v_eq
def ShSetPost (f : Nat) (u : Int) (rs : List Int) (rest : U.Bs) (w : World) (e : Ending) (w' : World) : Prop :=
  Only (fun k => k = f) w w' ∧ (rest ≠ [] → ∃ g, e = .returned (atV g) ∧ AtBlk w' g 3 (bl rs)) ∧ (rest = [] → 8000 < bl rs → e = .returned (errno 12)) ∧
    (rest = [] → bl rs ≤ 8000 → e = .returned .nilIface ∧ ShF w.heap.size w' f u rs)
set_option maxHeartbeats 4000000 in
theorem shset_calls {s : U.Bs} {rs : List Int} {rest : U.Bs} (hsp : U.Sp s rs rest) {w : World} {f : Nat} {u : Int} (hu : 1 ≤ u ∧ u ≤ 3) (hs : s.length ≤ 1000000) (hk : Blk w f 196 #[.int .i64 u, .string ⟨#[]⟩, .slice none 0 0, .slice none 0 0]) :
    Calls Tryz.prog 103 #[.pointer (some ⟨f, 0, none⟩), .string ⟨s.toArray⟩] w (ShSetPost f u rs rest w) := by
  have HK := Hd.mk hk
  have HC := Hd.mk (count_calls hsp w (by omega))
  have HALL := Hd.mk hsp.all
  have hoff : U.off rs rs.length = bl rs := U.off_full rs
  by_cases hr : rest = []
  · subst hr
    obtain rfl : s = U.encs rs := by have := hsp.eq; simpa using this
    have hlen : (U.encs rs).length = bl rs := rfl
    rw [hlen] at hs
    have HH := fun w1 => Hd.mk (halves_new hsp w1 (by show bl rs ≤ _; omega))
    have HRN := fun w1 => Hd.mk (runes_new hsp w1 (by show bl rs ≤ _; omega))
    have HLEN := Hd.mk hlen
    by_cases hbl : 8000 < bl rs
    · have hi : (8000 : Int) < ((U.encs rs).length : Int) := by show (8000 : Int) < (bl rs : Int); omega
      have HBL := Hd.mk hbl
      clear hsp hoff hk hlen hbl hs
      go_enter Tryz.func103, Tryz.ntmps103
      go_wp2_with (go_at_call 21; refine HC.out.mono ?_; rintro e w1 ⟨hb1, hok, -⟩; obtain rfl := hok rfl; have HB1 := Hd.mk hb1; clear hb1 hok)
      go_ret
      exact ⟨Only.of_below (ex_alloc HB1.out _) |>.mono (fun _ _ h => h), fun h => absurd rfl h, fun _ _ => rfl, fun _ h => absurd HBL.out (by omega)⟩
    · have hi : ¬ ((8000 : Int) < ((U.encs rs).length : Int)) := by show ¬ ((8000 : Int) < (bl rs : Int)); omega
      have HBL : Hd (bl rs ≤ 8000) := ⟨by omega⟩
      clear hsp hoff hk hlen hbl hs
      have h3 : u = 1 ∨ u = 2 ∨ u = 3 := by omega
      rcases h3 with rfl | rfl | rfl
      · go_enter Tryz.func103, Tryz.ntmps103
        go_wp2_with (go_at_call 21; refine HC.out.mono ?_; rintro e w1 ⟨hb1, hok, -⟩; obtain rfl := hok rfl; have hx1 := ex_alloc hb1 (.cells #[.int .i64 (cnt rs).b, .int .i64 (cnt rs).h, .int .i64 (cnt rs).r, .int .i64 (cnt rs).l] 63); have HB1 := Hd.mk hx1; have hk1 := HK.out.below hx1 HK.out.lt; have HK1 := Hd.mk hk1; obtain ⟨z0, z1, z2, z3⟩ := four_cells hk1; have zf := hk1.frozen; have zl := hk1.lt; clear hb1 hok hx1 hk1)
        go_ret
        refine ⟨(Only.of_below HB1.out : Only (fun k => k = f) _ _).setCell (.inl rfl) _, fun h => absurd rfl h, fun _ h => absurd HBL.out (by omega), fun _ _ => ⟨rfl, ⟨HALL.out, by decide, HBL.out, U.encs rs, _, _, HK1.out.set_ 1 (.string ⟨(U.encs rs).toArray⟩), ⟨fun _ => ⟨rfl, rfl, rfl⟩, fun h => by omega, fun h => by omega⟩, Frs.nil _, Frs.nil _⟩⟩⟩
      · go_enter Tryz.func103, Tryz.ntmps103
        go_wp2_with (first | (go_at_call 21; refine HC.out.mono ?_; rintro e w1 ⟨hb1, hok, -⟩; obtain rfl := hok rfl; have hx1 := ex_alloc hb1 (.cells #[.int .i64 (cnt rs).b, .int .i64 (cnt rs).h, .int .i64 (cnt rs).r, .int .i64 (cnt rs).l] 63); have HB1 := Hd.mk hx1; have hk1 := HK.out.below hx1 HK.out.lt; have HK1 := Hd.mk hk1; obtain ⟨z0, z1, z2, z3⟩ := four_cells hk1; have zf := hk1.frozen; have zl := hk1.lt; clear hb1 hok hx1 hk1) | (go_at_call 111; refine (HH _).out.mono ?_; rintro e w2 ⟨hb2, hok, -⟩; obtain ⟨v, rfl, hsl, hfr⟩ := hok rfl; obtain ⟨A, c, rfl⟩ : ∃ A c, v = .slice A (U.hvs rs).length c := (by obtain ⟨A, c, e, -⟩ := hsl; exact ⟨A, c, e⟩); have HSL := Hd.mk hsl; have HFR := Hd.mk hfr; have HB2 := Hd.mk (bstep HB1.out hb2); have hk2 := HK1.out.below hb2 HK1.out.lt; have HK2 := Hd.mk hk2; clear z0 z1 z2 z3 zf zl; obtain ⟨z0, z1, z2, z3⟩ := four_cells hk2; have zf := hk2.frozen; have zl := hk2.lt; clear hb2 hok hsl hfr hk2))
        go_ret
        have hO : Only (fun k => k = f) w w2 := Only.of_below HB2.out
        have hS := HSL.out.frs (S := fun k => k = f) HFR.out ((Only.refl (fun k => k = f) w2).setCell (p := ⟨f, 2, none⟩) (.inl rfl) (.slice A (U.hvs rs).length c)) (fun k e => by subst e; exact Nat.lt_of_lt_of_le HK.out.lt HB1.out.size)
        exact ⟨hO.setCell (.inl rfl) _, fun h => absurd rfl h, fun _ h => absurd HBL.out (by omega), fun _ _ => ⟨rfl, ⟨HALL.out, by decide, HBL.out, [], _, _, HK2.out.set_ 2 _, ⟨fun h => by omega, fun _ => ⟨rfl, hS, rfl⟩, fun h => by omega⟩, HFR.out.mono HB1.out.size, Frs.nil _⟩⟩⟩
      · go_enter Tryz.func103, Tryz.ntmps103
        go_wp2_with (first | (go_at_call 21; refine HC.out.mono ?_; rintro e w1 ⟨hb1, hok, -⟩; obtain rfl := hok rfl; have hx1 := ex_alloc hb1 (.cells #[.int .i64 (cnt rs).b, .int .i64 (cnt rs).h, .int .i64 (cnt rs).r, .int .i64 (cnt rs).l] 63); have HB1 := Hd.mk hx1; have hk1 := HK.out.below hx1 HK.out.lt; have HK1 := Hd.mk hk1; obtain ⟨z0, z1, z2, z3⟩ := four_cells hk1; have zf := hk1.frozen; have zl := hk1.lt; clear hb1 hok hx1 hk1) | (go_at_call 115; refine (HRN _).out.mono ?_; rintro e w2 ⟨hb2, hok, -⟩; obtain ⟨v, rfl, hsl, hfr⟩ := hok rfl; obtain ⟨A, c, rfl⟩ : ∃ A c, v = .slice A rs.length c := (by obtain ⟨A, c, e, -⟩ := hsl; exact ⟨A, c, e⟩); have HSL := Hd.mk hsl; have HFR := Hd.mk hfr; have HB2 := Hd.mk (bstep HB1.out hb2); have hk2 := HK1.out.below hb2 HK1.out.lt; have HK2 := Hd.mk hk2; clear z0 z1 z2 z3 zf zl; obtain ⟨z0, z1, z2, z3⟩ := four_cells hk2; have zf := hk2.frozen; have zl := hk2.lt; clear hb2 hok hsl hfr hk2))
        go_ret
        have hO : Only (fun k => k = f) w w2 := Only.of_below HB2.out
        have hS := HSL.out.frs (S := fun k => k = f) HFR.out ((Only.refl (fun k => k = f) w2).setCell (p := ⟨f, 3, none⟩) (.inl rfl) (.slice A rs.length c)) (fun k e => by subst e; exact Nat.lt_of_lt_of_le HK.out.lt HB1.out.size)
        exact ⟨hO.setCell (.inl rfl) _, fun h => absurd rfl h, fun _ h => absurd HBL.out (by omega), fun _ _ => ⟨rfl, ⟨HALL.out, by decide, HBL.out, [], _, _, HK2.out.set_ 3 _, ⟨fun h => by omega, fun h => by omega, fun _ => ⟨rfl, rfl, hS⟩⟩, Frs.nil _, HFR.out.mono HB1.out.size⟩⟩⟩
  · have HRR := Hd.mk hr
    have HOF := Hd.mk hoff
    clear hsp hoff hk hs hr
    go_enter Tryz.func103, Tryz.ntmps103
    go_wp2_with (go_at_call 21; refine HC.out.mono ?_; rintro e w1 ⟨hb1, -, hok⟩; obtain ⟨g, rfl, hg⟩ := hok HRR.out; have HB1 := Hd.mk hb1; have HG := Hd.mk hg; clear hb1 hok hg)
    go_ret
    refine ⟨Only.of_below (ex_alloc HB1.out _), fun _ => ⟨g, rfl, ?_⟩, fun h => absurd h HRR.out, fun h => absurd h HRR.out⟩
    rw [← HOF.out]
    exact HG.out.below (ex_alloc (Below.refl _ _) _)
end
end Go.Proofs.YtdgdajnbkfmijaaGreatDoor
/- shape.New. -/
namespace Go.Proofs.YtdgdajnbkfmijaaGreatDoor
open Go.RowKit
set_option maxRecDepth 100000
def ShNewPost (u : Int) (rs : List Int) (rest : U.Bs) (w : World) (e : Ending) (w' : World) : Prop :=
  Below w.heap.size w w' ∧ (¬ (1 ≤ u ∧ u ≤ 3) → e = .returned (.tuple #[.pointer none, errno 1])) ∧
    (1 ≤ u ∧ u ≤ 3 → rest ≠ [] → ∃ g, e = .returned (.tuple #[.pointer none, atV g]) ∧ AtBlk w' g 3 (bl rs)) ∧
    (1 ≤ u ∧ u ≤ 3 → rest = [] → 8000 < bl rs → e = .returned (.tuple #[.pointer none, errno 12])) ∧
    (1 ≤ u ∧ u ≤ 3 → rest = [] → bl rs ≤ 8000 → ∃ f, e = .returned (.tuple #[.pointer (some ⟨f, 0, none⟩), .nilIface]) ∧ w.heap.size ≤ f ∧ ShS w' f u rs)
def ShNewN (u : Int) (rs : List Int) (rest : U.Bs) (w : World) (e : Ending) (w' : World) : Prop :=
  Below w.heap.size w w' ∧ (¬ (1 ≤ u ∧ u ≤ 3) → e = .returned (.tuple #[.pointer none, errno 1])) ∧
    (1 ≤ u ∧ u ≤ 3 → rest ≠ [] → ∃ g, e = .returned (.tuple #[.pointer none, atV g]) ∧ AtBlk w' g 3 (bl rs)) ∧
    (1 ≤ u ∧ u ≤ 3 → rest = [] → 8000 < bl rs → e = .returned (.tuple #[.pointer none, errno 12])) ∧
    (1 ≤ u ∧ u ≤ 3 → rest = [] → bl rs ≤ 8000 → ∃ f, e = .returned (.tuple #[.pointer (some ⟨f, 0, none⟩), .nilIface]) ∧ w.heap.size ≤ f ∧ ShF (f + 1) w' f u rs)
set_option maxHeartbeats 4000000 in
theorem shnew_new {s : U.Bs} {rs : List Int} {rest : U.Bs} (hsp : U.Sp s rs rest) {u : Int} (hs : s.length ≤ 1000000) (w : World) :
    Calls Tryz.prog 63 #[.int .i64 u, .string ⟨s.toArray⟩] w (ShNewN u rs rest w) := by
  by_cases h3 : 1 ≤ u ∧ u ≤ 3
  · obtain ⟨h1, h2⟩ := h3
    have HT := Hd.mk (shset_calls hsp (w := w.alloc (.cells #[.int .i64 u, .string ⟨#[]⟩, .slice none 0 0, .slice none 0 0] 196)) (f := w.heap.size) ⟨h1, h2⟩ hs (Blk.new _ _ _))
    have hA : Below w.heap.size w (w.alloc (.cells #[.int .i64 u, .string ⟨#[]⟩, .slice none 0 0, .slice none 0 0] 196)) := ex_alloc (Below.refl _ _) _
    have HA := Hd.mk hA
    have hi1 : ¬ (u < 1) := by omega
    have hi2 : ¬ (3 < u) := by omega
    have HB : ∀ {w1 : World}, Only (fun k => k = w.heap.size) (w.alloc (.cells #[.int .i64 u, .string ⟨#[]⟩, .slice none 0 0, .slice none 0 0] 196)) w1 → Below w.heap.size w w1 := fun ho =>
      hA.trans (ho.below (by simp) (fun k hk e => by omega))
    have HBB := Hd.mk @HB
    clear hA HB hs
    by_cases hr : rest = []
    · by_cases hb : 8000 < bl rs
      · have HR := Hd.mk (And.intro hr hb)
        clear hr hb hsp
        go_enter Tryz.func63, Tryz.ntmps63
        go_wp2_with (go_at_call 103; refine HT.out.mono ?_; rintro e w1 ⟨ho, -, h2, -⟩; obtain rfl := h2 HR.out.1 HR.out.2; unfold errno; have HO := Hd.mk ho; clear ho h2)
        go_ret2
        exact ⟨HBB.out HO.out, fun h => absurd ⟨h1, h2⟩ h, fun _ h => absurd HR.out.1 h, fun _ _ _ => rfl, fun _ _ h => absurd HR.out.2 (by omega)⟩
      · have HR : Hd (rest = [] ∧ bl rs ≤ 8000) := ⟨hr, by omega⟩
        clear hr hb hsp
        go_enter Tryz.func63, Tryz.ntmps63
        go_wp2_with (go_at_call 103; refine HT.out.mono ?_; rintro e w1 ⟨ho, -, -, h2⟩; obtain ⟨rfl, hsh⟩ := h2 HR.out.1 HR.out.2; have HO := Hd.mk ho; have HSH := Hd.mk hsh; clear ho h2 hsh)
        go_ret2
        exact ⟨HBB.out HO.out, fun h => absurd ⟨h1, h2⟩ h, fun _ h => absurd HR.out.1 h, fun _ _ h => absurd HR.out.2 (by omega), fun _ _ _ => ⟨_, rfl, Nat.le_refl _, HSH.out.less (by simp)⟩⟩
    · have HR := Hd.mk hr
      clear hr hsp
      go_enter Tryz.func63, Tryz.ntmps63
      go_wp2_with (go_at_call 103; refine HT.out.mono ?_; rintro e w1 ⟨ho, h2, -⟩; obtain ⟨g, rfl, hg⟩ := h2 HR.out; have HO := Hd.mk ho; have HG := Hd.mk hg; clear ho h2 hg)
      go_ret2
      exact ⟨HBB.out HO.out, fun h => absurd ⟨h1, h2⟩ h, fun _ _ => ⟨g, rfl, HG.out⟩, fun _ h => absurd h HR.out, fun _ h => absurd h HR.out⟩
  · have H3 := Hd.mk h3
    have hc : u < 1 ∨ (¬ u < 1 ∧ 3 < u) := by omega
    clear hsp hs h3
    rcases hc with h | ⟨h, h'⟩
    all_goals
      go_enter Tryz.func63, Tryz.ntmps63
      go_wp2_with fail
      first | go_quiet (fail) | skip
      go_wp2_with fail
      go_ret2
      exact ⟨by first | exact Below.refl _ _ | exact ex_drewN _ (Below.refl _ _), fun _ => rfl, fun h => absurd h H3.out, fun h => absurd h H3.out, fun h => absurd h H3.out⟩
theorem shnew_calls {s : U.Bs} {rs : List Int} {rest : U.Bs} (hsp : U.Sp s rs rest) {u : Int} (hs : s.length ≤ 1000000) (w : World) :
    Calls Tryz.prog 63 #[.int .i64 u, .string ⟨s.toArray⟩] w (ShNewPost u rs rest w) := by
  refine (shnew_new hsp hs w).mono ?_
  rintro e w' ⟨a, b, c, d, h⟩
  exact ⟨a, b, c, d, fun h1 h2 h3 => by obtain ⟨f, x, y, z⟩ := h h1 h2 h3; exact ⟨f, x, y, z.shs⟩⟩
end Go.Proofs.YtdgdajnbkfmijaaGreatDoor
