/- keep.done: two that put at one place. -/
import Derived.Test.YtgokmldngnmmhaaDoorMOpsAlong39
import Derived.Test.YtgokmldngnmmhaaDoorMOpsAlong30
namespace Go.Proofs.YtgokmldngnmmhaaDoor
open Go.RowKit
set_option maxRecDepth 100000
theorem sl_lit {size n : Nat} {ty : TypeId} {xs : List Value} {cs : Array Value} (w : World) (hc : cs.toList = xs) (h : xs.length = n * size) (hm : n ≤ maxLen) : Sl (w.alloc (.cells cs ty)) size (.slice (some ⟨w.heap.size, 0, none⟩) n n) n xs := by
  refine ⟨_, _, rfl, h, Nat.le_refl _, hm, (fun h => nomatch h), fun _ => ⟨_, rfl, by simp, fun j u hu => ?_⟩⟩
  have : (⟨w.heap.size, 0, none⟩ : Addr).add j = ⟨w.heap.size, j, none⟩ := by unfold Addr.add; split <;> simp_all
  rw [this, (Blk.new w ty cs).cell j, ← Array.getElem?_toList, hc]; exact hu
abbrev kdA : List PT := [⟨0, 0, [120]⟩, ⟨1, 0, []⟩]
abbrev kdB : List PT := [⟨0, 0, [121, 122]⟩, ⟨1, 0, []⟩]
theorem kd_spx : U.Sp [120] [120] [] := ⟨by intro r hr; obtain rfl := List.mem_singleton.1 hr; decide, by decide, by decide⟩
theorem sp_yz : U.Sp [121, 122] [121, 122] [] := ⟨by
  intro r hr
  rcases List.mem_cons.1 hr with rfl | hr
  · decide
  · obtain rfl := List.mem_singleton.1 hr; decide, by decide, by decide⟩
theorem kd_ga : ∀ p ∈ kdA, p.Good := by
  intro p hp
  rcases List.mem_cons.1 hp with rfl | hp
  · exact ⟨by decide, [120], kd_spx⟩
  · obtain rfl := List.mem_singleton.1 hp
    exact ⟨by decide, [], sp_nil⟩
theorem kd_gb : ∀ p ∈ kdB, p.Good := by
  intro p hp
  rcases List.mem_cons.1 hp with rfl | hp
  · exact ⟨by decide, [121, 122], sp_yz⟩
  · obtain rfl := List.mem_singleton.1 hp
    exact ⟨by decide, [], sp_nil⟩
theorem kd_ma : Mo kdA 2 := ⟨by decide, by decide, fun _ => by decide⟩
theorem kd_mb : Mo kdB 2 := ⟨by decide, by decide, fun _ => by decide⟩
theorem kd_c : trc kdA kdB = 0 := by
  unfold trc chk2
  rw [show was kdA = 1 from rfl, show was kdB = 1 from rfl, wrap_id (a := 1) (by decide) (by decide), chk_of kd_ga (by decide), if_pos rfl, chk_of kd_gb (by decide), if_pos rfl, if_pos (by decide)]
theorem kd_na : expand (norm kdA) = [PT.byte 120, PT.k1] := by rfl
theorem kd_nb : expand (norm kdB) = [PT.byte 121, PT.byte 122, PT.k1] := by rfl
theorem kd_t : urun (tr true (expand (norm kdA)) (expand (norm kdB))) = [⟨0, 0, [120]⟩, ⟨3, 0, []⟩] := by
  rw [kd_na, kd_nb]
  simp [tr, isPut, PT.byte, PT.k1]
  rfl
theorem kd_f : urun (tr false (expand (norm kdA)) (expand (norm kdB))) = [⟨2, 0, []⟩, ⟨0, 0, [120]⟩, ⟨1, 0, []⟩] := by
  rw [kd_na, kd_nb]
  simp [tr, isPut, PT.byte, PT.k1]
  rfl
theorem kd_post {first : Bool} {l : List PT} {n : Nat} (hl : l.length = n) (hu : urun (tr first (expand (norm kdA)) (expand (norm kdB))) = l) {W : World} (hg : Hdl W) :
    Calls Tryd.prog 46 #[.slice (some ⟨W.heap.size, 0, none⟩) 2 2, .slice (some ⟨W.heap.size + 1, 0, none⟩) 2 2, .bool first] ((W.alloc (.cells #[.int .i64 0, .int .i64 0, .string ⟨#[120]⟩, .int .i64 1, .int .i64 0, .string ⟨#[]⟩] 111)).alloc (.cells #[.int .i64 0, .int .i64 0, .string ⟨#[121, 122]⟩, .int .i64 1, .int .i64 0, .string ⟨#[]⟩] 111))
      fun e w' => Below W.heap.size W w' ∧ ∃ A c, e = .returned (.tuple #[.slice A n c, .nilIface]) ∧ Sl w' 3 (.slice A n c) n (opv l) := by
  have h1 := sl_lit (size := 3) (n := 2) (ty := 111) (xs := opv kdA) (cs := #[.int .i64 0, .int .i64 0, .string ⟨#[120]⟩, .int .i64 1, .int .i64 0, .string ⟨#[]⟩]) W rfl rfl (by decide)
  have h2 := sl_lit (size := 3) (n := 2) (ty := 111) (xs := opv kdB) (cs := #[.int .i64 0, .int .i64 0, .string ⟨#[121, 122]⟩, .int .i64 1, .int .i64 0, .string ⟨#[]⟩]) (W.alloc (.cells #[.int .i64 0, .int .i64 0, .string ⟨#[120]⟩, .int .i64 1, .int .i64 0, .string ⟨#[]⟩] 111)) rfl rfl (by decide)
  rw [World.size_alloc] at h2
  have hb2 := ex_alloc (ex_alloc (Below.refl W.heap.size W) (.cells #[.int .i64 0, .int .i64 0, .string ⟨#[120]⟩, .int .i64 1, .int .i64 0, .string ⟨#[]⟩] 111)) (.cells #[.int .i64 0, .int .i64 0, .string ⟨#[121, 122]⟩, .int .i64 1, .int .i64 0, .string ⟨#[]⟩] 111)
  refine (otrans_mo (hg.below hb2) (h1.below (ex_alloc (Below.refl _ _) _)) h2 kd_ma kd_mb).mono ?_
  rintro e w' ⟨hb3, v, rfl, hs, -⟩
  have hs := hs kd_c
  rw [hu, hl] at hs
  obtain ⟨A, c, rfl, -⟩ := id hs
  exact ⟨bstep hb2 hb3, A, c, by rw [kd_c, errOf_zero], hs⟩
set_option maxHeartbeats 2000000 in
theorem keepdone_calls {w : World} (hg : Hdl w) : Calls Tryd.prog 44 #[] w fun e w' => e = .returned (.bool true) ∧ Below w.heap.size w w' := by
  have HG := Hd.mk hg
  have HT := Hd.mk kd_t
  have HF := Hd.mk kd_f
  clear hg
  go_enter Tryd.func44, Tryd.ntmps44
  go_wp2_with fail
  refine (kd_post (n := 2) rfl HT.out HG.out).mono ?_
  rintro e w1 ⟨hb1, A1, c1, rfl, hs1⟩
  have HB1 := Hd.mk hb1
  have HS1 := Hd.mk hs1
  clear hb1 hs1
  go_wp2_with fail
  refine (kd_post (n := 3) rfl HF.out (HG.out.below HB1.out)).mono ?_
  rintro e w2 ⟨hb2, A2, c2, rfl, hs2⟩
  have HB2 := Hd.mk (bstep HB1.out hb2)
  have HS12 := Hd.mk (HS1.out.below hb2)
  have HS2 := Hd.mk hs2
  clear hb2 hs2
  go_wp2_with fail
  have hx3 : Below w2.heap.size w2 (w2.alloc (.cells #[.int .i64 0, .int .i64 0, .string ⟨#[120]⟩, .int .i64 3, .int .i64 0, .string ⟨#[]⟩] 111)) := ex_alloc (Below.refl _ _) _
  refine (same_calls (HS12.out.below hx3) (sl_lit w2 rfl rfl (by decide))).mono ?_
  rintro e w3 ⟨rfl, hb3⟩
  have HB3 := Hd.mk (bstep (bstep HB2.out hx3) hb3)
  have HS23 := Hd.mk ((HS2.out.below hx3).below hb3)
  clear hb3 hx3
  go_wp2_with fail
  have hx4 : Below w3.heap.size w3 (w3.alloc (.cells #[.int .i64 2, .int .i64 0, .string ⟨#[]⟩, .int .i64 0, .int .i64 0, .string ⟨#[120]⟩, .int .i64 1, .int .i64 0, .string ⟨#[]⟩] 111)) := ex_alloc (Below.refl _ _) _
  refine (same_calls (HS23.out.below hx4) (sl_lit w3 rfl rfl (by decide))).mono ?_
  rintro e w4 ⟨rfl, hb4⟩
  have HB4 := Hd.mk (bstep (bstep HB3.out hx4) hb4)
  clear hb4 hx4
  go_wp2_with fail
  go_ret
  exact ⟨rfl, HB4.out⟩
end Go.Proofs.YtgokmldngnmmhaaDoor
