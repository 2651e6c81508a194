/- bridge.To, bridge.From; keep.over. -/
import Derived.Test.YtdgdajnbkfmijaaGreatDoorMRoomMeets27
import Derived.Test.YtdgdajnbkfmijaaGreatDoorMRoomMeets26
import Derived.Test.YtdgdajnbkfmijaaGreatDoorMRoomMeets33
namespace Go.Proofs.YtdgdajnbkfmijaaGreatDoor
open Go.RowKit Go.Sort
set_option maxRecDepth 100000
theorem to_new {R : List Int} {l : List PT} {v : Value} {n p : Nat} {t : RT} {u : Int} {w : World} (hat : AtR w p t) (hgd : Good t) (hR : R = t.runes) (hgl : Hdl w) (hsl : Sl w 3 v n (opv l)) (hp : ∀ p ∈ l, p.put.length ≤ 35184372087808) (hn : n ≤ 100000) :
    Calls Tryz.prog 72 #[.pointer (some ⟨p, 0, none⟩), .int .i64 u, v] w (OTnNew R l u 1 w) := by
  have HT := Hd.mk (oturn_new (u := u) hat hgd hR hgl hsl hp (by decide : (1 : Int) ≤ 1 ∧ (1 : Int) ≤ 3) hn)
  obtain ⟨A, cc, rfl, -⟩ := hsl
  clear hat hgd hR hgl hp
  go_enter Tryz.func72, Tryz.ntmps72
  go_wp2_with fail
  refine HT.out.mono ?_
  rintro e w1 ⟨⟨hb, v1, o, k, rfl, hs, hr⟩, hf⟩
  have HF := Hd.mk (hf _ _ rfl)
  have H := Hd.mk (And.intro hb (And.intro hs hr))
  clear hb hs hr hf
  go_wp2_with fail
  go_ret2
  exact ⟨⟨H.out.1, v1, o, k, rfl, H.out.2.1, H.out.2.2⟩, frE HF.out⟩
theorem from_new {R : List Int} {l : List PT} {v : Value} {n p : Nat} {t : RT} {u : Int} {w : World} (hat : AtR w p t) (hgd : Good t) (hR : R = t.runes) (hgl : Hdl w) (hsl : Sl w 3 v n (opv l)) (hp : ∀ p ∈ l, p.put.length ≤ 35184372087808) (hn : n ≤ 100000) :
    Calls Tryz.prog 169 #[.pointer (some ⟨p, 0, none⟩), .int .i64 u, v] w (OTnNew R l 1 u w) := by
  by_cases hu : 1 ≤ u ∧ u ≤ 3
  · have HT := Hd.mk (oturn_new (u := 1) hat hgd hR hgl hsl hp hu hn)
    have hu1 : ¬ u < 1 := by omega
    have hu2 : ¬ 3 < u := by omega
    obtain ⟨A, cc, rfl, -⟩ := hsl
    clear hat hgd hR hgl hp hu
    go_enter Tryz.func169, Tryz.ntmps169
    go_wp2_with fail
    refine HT.out.mono ?_
    rintro e w1 ⟨⟨hb, v1, o, k, rfl, hs, hr⟩, hf⟩
    have HF := Hd.mk (hf _ _ rfl)
    have H := Hd.mk (And.intro hb (And.intro hs hr))
    clear hb hs hr hf
    go_wp2_with fail
    go_ret2
    exact ⟨⟨H.out.1, v1, o, k, rfl, H.out.2.1, H.out.2.2⟩, frE HF.out⟩
  · have HU := Hd.mk hu
    clear hat hgd hR hgl hp hsl
    by_cases hu1 : u < 1
    · clear hu
      go_enter Tryz.func169, Tryz.ntmps169
      go_wp2_with fail
      go_ret2
      exact ⟨⟨Below.refl _ _, _, [], 1, rfl, Sl.nil _ _, fun _ => ⟨rfl, rfl⟩, fun h => absurd h.2 HU.out, fun h => absurd h.2 HU.out⟩, frE (Frs.nil _)⟩
    · have hu2 : 3 < u := by omega
      clear hu
      go_enter Tryz.func169, Tryz.ntmps169
      go_wp2_with fail
      go_ret2
      exact ⟨⟨Below.refl _ _, _, [], 1, rfl, Sl.nil _ _, fun _ => ⟨rfl, rfl⟩, fun h => absurd h.2 HU.out, fun h => absurd h.2 HU.out⟩, frE (Frs.nil _)⟩
theorem plen_mem {l : List PT} {p : PT} (h : p ∈ l) : p.put.length ≤ plen l := by
  induction l with
  | nil => cases h
  | cons q l ih =>
    rw [plen]
    rcases List.mem_cons.1 h with rfl | h
    · omega
    · have := ih h; omega
section
attribute [local go_sem] Cn.v_eq field_cn2
end
end Go.Proofs.YtdgdajnbkfmijaaGreatDoor
