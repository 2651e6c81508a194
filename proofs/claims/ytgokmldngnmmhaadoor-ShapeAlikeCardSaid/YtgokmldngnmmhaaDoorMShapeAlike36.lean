/- bridge.To, bridge.From; keep.over. -/
import Derived.Test.YtgokmldngnmmhaaDoorMShapeAlike31
import Derived.Test.YtgokmldngnmmhaaDoorMShapeAlike30
import Derived.Test.YtgokmldngnmmhaaDoorMShapeAlike32
namespace Go.Proofs.YtgokmldngnmmhaaDoor
open Go.RowKit Go.Sort
set_option maxRecDepth 100000
theorem to_calls {R : List Int} {l : List PT} {v : Value} {n p : Nat} {t : RT} {u : Int} {w : World} (hat : AtR w p t) (hgd : Good t) (hR : R = t.runes) (hgl : Hdl w) (hsl : Sl w 3 v n (opv l)) (hp : ∀ p ∈ l, p.put.length ≤ 35184372087808) (hn : n ≤ 1000) :
    Calls Tryd.prog 47 #[.pointer (some ⟨p, 0, none⟩), .int .i64 u, v] w (OTnPost R l u 1 w) := by
  have HT := Hd.mk (oturn_calls (u := u) hat hgd hR hgl hsl hp (by decide : (1 : Int) ≤ 1 ∧ (1 : Int) ≤ 3) hn)
  obtain ⟨A, cc, rfl, -⟩ := hsl
  clear hat hgd hR hgl hp
  go_enter Tryd.func47, Tryd.ntmps47
  go_wp2_with fail
  refine HT.out.mono ?_
  rintro e w1 ⟨hb, v1, o, k, rfl, hs, hr⟩
  have H := Hd.mk (And.intro hb (And.intro hs hr))
  clear hb hs hr
  go_wp2_with fail
  go_ret2
  exact ⟨H.out.1, v1, o, k, rfl, H.out.2.1, H.out.2.2⟩
theorem from_calls {R : List Int} {l : List PT} {v : Value} {n p : Nat} {t : RT} {u : Int} {w : World} (hat : AtR w p t) (hgd : Good t) (hR : R = t.runes) (hgl : Hdl w) (hsl : Sl w 3 v n (opv l)) (hp : ∀ p ∈ l, p.put.length ≤ 35184372087808) (hn : n ≤ 1000) :
    Calls Tryd.prog 48 #[.pointer (some ⟨p, 0, none⟩), .int .i64 u, v] w (OTnPost R l 1 u w) := by
  by_cases hu : 1 ≤ u ∧ u ≤ 3
  · have HT := Hd.mk (oturn_calls (u := 1) hat hgd hR hgl hsl hp hu hn)
    have hu1 : ¬ u < 1 := by omega
    have hu2 : ¬ 3 < u := by omega
    obtain ⟨A, cc, rfl, -⟩ := hsl
    clear hat hgd hR hgl hp hu
    go_enter Tryd.func48, Tryd.ntmps48
    go_wp2_with fail
    refine HT.out.mono ?_
    rintro e w1 ⟨hb, v1, o, k, rfl, hs, hr⟩
    have H := Hd.mk (And.intro hb (And.intro hs hr))
    clear hb hs hr
    go_wp2_with fail
    go_ret2
    exact ⟨H.out.1, v1, o, k, rfl, H.out.2.1, H.out.2.2⟩
  · have HU := Hd.mk hu
    clear hat hgd hR hgl hp hsl
    by_cases hu1 : u < 1
    · clear hu
      go_enter Tryd.func48, Tryd.ntmps48
      go_wp2_with fail
      go_ret2
      exact ⟨Below.refl _ _, _, [], 1, rfl, Sl.nil _ _, fun _ => ⟨rfl, rfl⟩, fun h => absurd h.2 HU.out, fun h => absurd h.2 HU.out⟩
    · have hu2 : 3 < u := by omega
      clear hu
      go_enter Tryd.func48, Tryd.ntmps48
      go_wp2_with fail
      go_ret2
      exact ⟨Below.refl _ _, _, [], 1, rfl, Sl.nil _ _, fun _ => ⟨rfl, rfl⟩, fun h => absurd h.2 HU.out, fun h => absurd h.2 HU.out⟩
theorem plen_mem {l : List PT} {p : PT} (h : p ∈ l) : p.put.length ≤ plen l := by
  induction l with
  | nil => cases h
  | cons q l ih =>
    rw [plen]
    rcases List.mem_cons.1 h with rfl | h
    · omega
    · have := ih h; omega
/-- What over hands back. -/
def OvPost (s : U.Bs) (w : World) (e : Ending) (w' : World) : Prop :=
  Below w.heap.size w w' ∧ ((∃ v, e = .returned (.tuple #[v, .bool false])) ∨ ∃ v R X l, e = .returned (.tuple #[v, .bool true]) ∧ s = U.encs R ∧ U.AllR R ∧ bl R ≤ 1500 ∧ OpR l X R ∧ plen l ≤ 4500 ∧ l.length ≤ 61 ∧ Sl w' 3 v l.length (opv l))
section
attribute [local go_sem] Cn.v_eq field_cn2
set_option maxHeartbeats 4000000 in
theorem over_calls {l : List PT} {v : Value} {n : Nat} {s : U.Bs} {w : World} (hgl : Hdl w) (hsl : Sl w 3 v n (opv l)) (hsm : s.length ≤ maxLen) :
    Calls Tryd.prog 45 #[v, .string ⟨s.toArray⟩] w (OvPost s w) := by
  have HG := Hd.mk hgl
  have HSL := Hd.mk hsl
  have HD := Hd.mk (document_calls w hsm)
  obtain ⟨A, cc, rfl, -⟩ := hsl
  clear hgl hsm
  go_enter Tryd.func45, Tryd.ntmps45
  go_wp2_with fail
  refine HD.out.mono ?_
  rintro e w1 ⟨hb1, hd⟩
  have HB1 := Hd.mk hb1
  clear hb1
  rcases hd with rfl | ⟨p, t, rfl, hat, hg, hs, hl⟩
  · go_wp2_with fail
    go_ret2
    exact ⟨HB1.out, .inl ⟨_, rfl⟩⟩
  · have HAT := Hd.mk hat
    have HGD := Hd.mk hg
    have HS := Hd.mk hs
    have HL := Hd.mk hl
    have HTL : Hd ((0 : Int) ≤ (cnt t.runes).r ∧ (cnt t.runes).r ≤ 1000000) := ⟨by
      have h1 := of_three t.runes
      have h2 : (cnt t.runes).of 3 = (cnt t.runes).r := rfl
      have := bl_len t.runes
      have := hg.sz
      omega⟩
    clear hat hg hs hl
    go_wp2_with fail
    refine (counts_calls HAT.out).mono ?_
    rintro e w2 ⟨rfl, hb2⟩
    have HB2 := Hd.mk (bstep HB1.out hb2)
    have HAT2 := Hd.mk (HAT.out.below hb2)
    clear hb2
    go_wp2_with fail
    refine (kfit_calls (HSL.out.below HB2.out) HTL.out).mono ?_
    rintro e w3 ⟨hb3, v3, L, rfl, hs3, hg3, hw3, hp3, hl3⟩
    have HB3 := Hd.mk (bstep HB2.out hb3)
    have HAT3 := Hd.mk (HAT2.out.below hb3)
    have HS3 := Hd.mk hs3
    have HI3 := Hd.mk (And.intro hg3 (And.intro hw3 (And.intro hp3 hl3)))
    obtain ⟨A3, c3, rfl, -⟩ := hs3
    clear hb3 hg3 hw3 hp3 hl3
    go_wp2_with fail
    refine (to_calls (u := 3) HAT3.out HGD.out rfl (HG.out.below HB3.out) HS3.out (fun p hp => by have := plen_mem hp; have := HI3.out.2.2.1; omega) (by have := HI3.out.2.2.2; omega)).mono ?_
    rintro e w4 ⟨hb4, v4, o, k, rfl, hs4, hr4⟩
    obtain ⟨rfl, ⟨X, hX⟩, h41, h42⟩ := tnR_runes hr4 HI3.out.1 (by have h1 := of_three t.runes; have h2 := HI3.out.2.1; exact h2.trans h1)
    have HB4 := Hd.mk (bstep HB3.out hb4)
    have HS4 := Hd.mk hs4
    have HX := Hd.mk (And.intro hX (And.intro h41 h42))
    obtain ⟨A4, c4, rfl, -⟩ := hs4
    clear hb4 hr4 hX h41 h42
    rw [show erV 0 = Value.nilIface from rfl]
    go_wp2_with fail
    go_quiet (fail)
    go_wp2_with fail
    go_ret2
    refine ⟨ex_drewN nq HB4.out, .inr ⟨_, t.runes, X, o, rfl, HS.out.symm, HGD.out.all, ?_, HX.out.1, ?_, ?_, HS4.out.below (ex_drewN nq (Below.refl _ _))⟩⟩
    · have := HL.out; rw [← HS.out] at this; exact this
    · have := HX.out.2.1; have := HI3.out.2.2.1; omega
    · have := HX.out.2.2; have := HI3.out.2.2.2; omega
end
end Go.Proofs.YtgokmldngnmmhaaDoor
