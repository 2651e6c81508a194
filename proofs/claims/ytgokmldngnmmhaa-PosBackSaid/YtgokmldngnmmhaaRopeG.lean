/- cuts. -/
import Derived.Test.YtgokmldngnmmhaaRopeF
import Derived.Deep.AppendLies
import Derived.Deep.RegionLaw
namespace Go.Proofs.Ytgokmldngnmmhaa
open Go.RowKit
set_option maxRecDepth 100000
theorem el_str : El Try.prog 77 9 1 16 := El.mk' Try.underlying77 (by kernel_rfl) (by decide)
/-- Chunks as a row of strings. -/
def cstr (cs : List (List Int)) : List Value := cs.map fun c => .string ⟨(U.encs c).toArray⟩
theorem cstr_append (a b : List (List Int)) : cstr (a ++ b) = cstr a ++ cstr b := by simp [cstr]
theorem cstr_one (c : List Int) : cstr [c] = (#[Value.string ⟨(U.encs c).toArray⟩] : Array Value).toList := rfl
theorem ext_take0 {s : U.Bs} {k : Nat} (hk : k ≤ s.length) : (ByteArray.mk s.toArray).extract 0 k = ⟨(s.take k).toArray⟩ := by
  simp [ByteArray.extract, ByteArray.copySlice, hk]
theorem take_fill (rs : List Int) (k : Nat) : (U.encs rs).take (bl (fill rs k)) = U.encs (fill rs k) ∧ (U.encs rs).drop (bl (fill rs k)) = U.encs (rs.drop (fill rs k).length) := by
  have e : U.encs rs = U.encs (fill rs k) ++ U.encs (rs.drop (fill rs k).length) := by rw [← U.encs_append, ← fill_drop]
  unfold bl
  constructor
  · conv => lhs; rw [e]
    exact List.take_left
  · conv => lhs; rw [e]
    exact List.drop_left
/-- Where the cut is sought. -/
theorem cut_here {rs : List Int} (h : U.AllR rs) {k : Nat} (h1 : bl (fill rs 32) ≤ k) (h2 : k ≤ 32) (h3 : 32 < bl rs) : U.cont ((U.encs rs).getD k 0) = decide (bl (fill rs 32) < k) := by
  have hr := redg_iff h (a := k) (by omega)
  have hn : k ≠ (U.encs rs).length := by have : (U.encs rs).length = bl rs := rfl; omega
  unfold redg at hr
  rw [decide_eq_false hn, Bool.false_or] at hr
  by_cases hk : bl (fill rs 32) < k
  · rw [decide_eq_true hk]
    cases hc : U.cont ((U.encs rs).getD k 0) with
    | true => rfl
    | false =>
      exfalso
      rw [hc] at hr
      obtain ⟨p, q, e, hb⟩ := hr.1 rfl
      have := fill_max e (k := 32) (by omega)
      omega
  · rw [decide_eq_false hk]
    obtain ⟨q, e⟩ := fill_pre rs 32
    have := hr.2 ⟨fill rs 32, q, e, by omega⟩
    simpa using this
theorem cutR_step {rs : List Int} (h : 32 < bl rs) : cutR rs = fill rs 32 :: cutR (rs.drop (fill rs 32).length) := by
  conv => lhs; unfold cutR
  rw [dif_pos h]
theorem cutR_last {rs : List Int} (h : ¬ 32 < bl rs) : cutR rs = if rs = [] then [] else [rs] := by
  conv => lhs; unfold cutR
  rw [dif_neg h]
section
variable {P : Program}
/-- append(own, x) of a literal of one block, at a step of a region that draws. -/
theorem step_app {ops : Array Oper} {o : Oper} {a : Act} {w : World} {K : Act → World → Prop} {Q : Exit → Act → World → Prop} {F : Prop} {s x : Operand} {t e : TypeId} {size bytes base n m B : Nat} {v : Value} {xs : List Value} {cs : Array Value}
    (E : El P t e size bytes) (hgd : o.guard = none) (ho : o.op = .call { callee := .builtin .append, args := #[s, x], argTypes := #[t, t] }) (hs : a.eval s = v) (hown : w.ownsRow base e size v n xs)
    (hx : a.eval x = .slice (some ⟨B, 0, none⟩) m m) (hb : w.heap[B]? = some (.cells cs e (0, 0))) (hl : cs.toList.length = m * size) (h1 : ∀ u ∈ cs.toList, u.oneCell' = true) (hm : 0 < m)
    (h63 : n + m ≤ maxLen) (hbytes : (n + m) * bytes ≤ 140737488355328) (hbase : base ≤ w.heap.size)
    (h : ∀ g cap w', w'.ownsRow base e size (.slice (some ⟨g, 0, none⟩) (n + m) cap) (n + m) (xs ++ cs.toList) → Below base w w' → K (a.put o.dst (.slice (some ⟨g, 0, none⟩) (n + m) cap)) w') :
    if Region.wanted o (yielded ops a.tmps) = true then Oper.wp P o a w K Q else F := by
  obtain ⟨i, z, hi, hz, hsi, hby, hzs⟩ := E.hi
  refine step_append_lies w hgd s x t ho base e i z size bytes E.ht hi hz hsi hby hzs E.pos v n xs hs hown ⟨B, 0, none⟩ m m cs.toList hx hl (World.news_of_block hb) h1 hm h63 hbytes hbase _ rfl ?_
  intro g cap w' ho' hg _ _
  have hlt := hown.lt
  exact h g cap w' ho' ⟨hg.os, hg.tape, hg.output, hg.size, fun k hk => hg.block k (by omega) (fun e => by have := (hlt k e.symm).1; omega)⟩
end
theorem bl_drop (rs : List Int) (k : Nat) : bl (rs.drop k) = bl rs - bl (rs.take k) := by
  have : rs = rs.take k ++ rs.drop k := (List.take_append_drop k rs).symm
  conv => rhs; lhs; rw [this]
  rw [bl_append]; omega
attribute [local go_sem] ext_drop
set_option maxHeartbeats 4000000 in
theorem cuts_calls {rs : List Int} (hr : U.AllR rs) (hs : bl rs ≤ 1000000) (w : World) :
    Calls Try.prog 31 #[.string ⟨(U.encs rs).toArray⟩] w fun e w' => ∃ v, e = .returned v ∧ Below w.heap.size w w' ∧ w'.ownsRow w.heap.size 9 1 v (cutR rs).length (cstr (cutR rs)) := by
  have HR := Hd.mk hr
  have HS := Hd.mk hs
  clear hr hs
  go_enter Try.func31, Try.ntmps31
  go_wp2_with fail
  go_loopg [0, 3] rs.length (fun gk sv out wr => ∃ (d : List (List Int)) (q : List Int), sv = .string ⟨(U.encs q).toArray⟩ ∧ cutR rs = d ++ cutR q ∧ U.AllR q ∧ q.length = gk ∧ bl q ≤ bl rs ∧ d.length + q.length ≤ rs.length ∧ wr.ownsRow w.heap.size 9 1 out d.length (cstr d) ∧ Below w.heap.size w wr)
  case atStart => exact ⟨[], rs, rfl, rfl, HR.out, rfl, Nat.le_refl _, by simp, ⟨rfl, .inl ⟨rfl, rfl⟩⟩, Below.refl _ _⟩
  case round =>
    obtain ⟨d, q, rfl, hc, hq, hg, hb, hdl, hown, hbel⟩ := hrel
    have HC := Hd.mk hc
    have HQ := Hd.mk hq
    have HG := Hd.mk hg
    have HO := Hd.mk hown
    have HB := Hd.mk hbel
    have hrl := bl_len rs
    have hs := HS.out
    have HDL : Hd (d.length + q.length ≤ 1000000) := ⟨by omega⟩
    have hlq : (U.encs q).length = bl q := rfl
    have hbq : bl q ≤ 1000000 := by omega
    have HBQ := Hd.mk hb
    have HDL0 := Hd.mk hdl
    clear hc hq hg hown hbel hrl hs hdl
    by_cases h1 : 32 < bl q
    · have hi : (32 : Int) < (bl q : Int) := by omega
      have HFL : Hd (bl (fill q 32) ≤ 32 ∧ fill q 32 ≠ []) := ⟨fill_le _ _, fill_ne (by rintro rfl; simp at h1) (by omega)⟩
      have HTF := Hd.mk (take_fill q 32)
      have HST := Hd.mk (cutR_step h1)
      have HCU : Hd (∀ k, bl (fill q 32) ≤ k → k ≤ 32 → U.cont ((U.encs q).getD k 0) = decide (bl (fill q 32) < k)) := ⟨fun k h2 h3 => cut_here HQ.out h2 h3 h1⟩
      go_wp2_with fail
      go_loopg [4] 32 (fun gk kv wr' => ∃ k : Nat, kv = .int .i64 k ∧ k = gk ∧ bl (fill q 32) ≤ k ∧ k ≤ 32 ∧ wr' = wr)
      case atStart => exact ⟨32, rfl, rfl, HFL.out.1, Nat.le_refl _, rfl⟩
      case round =>
        obtain ⟨k, rfl, hk0, hk1, hk2, rfl⟩ := hrel
        have e0 := fun hh => byte_at (s := U.encs q) (j := k) (by omega) hh
        have hcc := HCU.out k hk1 hk2
        have HK1 := Hd.mk hk1
        by_cases h2 : bl (fill q 32) < k
        · rw [decide_eq_true h2] at hcc
          have hct := contT hcc
          have HK0 := Hd.mk hk0
          have HK2 := Hd.mk h2
          clear hcc h2 hk0 hk1
          generalize (U.encs q).getD k 0 = x at *
          have hx := x.toNat_lt
          go_wp2_with fail
          go_roundg (k - 1)
          case rel => exact ⟨k - 1, by congr 1; have := HK2.out; omega, rfl, by have := HK2.out; omega, by omega, rfl⟩
          case measure => have := HK0.out; have := HK2.out; omega
        · have hke : bl (fill q 32) = k := by omega
          rw [decide_eq_false h2] at hcc
          have hct := contF (by rw [hcc]; exact Bool.false_ne_true)
          rw [hke] at HTF
          clear hcc h2 hk0 hk1
          have hx := ((U.encs q).getD k 0).toNat_lt
          generalize (U.encs q).getD k 0 = x at *
          have hkl : k ≤ (U.encs q).length := by omega
          have e1 := ext_take0 hkl
          have e2 : (ByteArray.mk (U.encs q).toArray).extract k (bl q) = ⟨((U.encs q).drop k).toArray⟩ := ext_drop _ _
          rw [HTF.out.1] at e1
          rw [HTF.out.2] at e2
          rw [hlq] at hkl
          have HKE := Hd.mk hke
          clear hke
          go_wp2_with fail
          go_region_law (first | (refine step_app (m := 1) (B := wr.heap.size) (cs := #[Value.string ⟨(U.encs (fill q 32)).toArray⟩]) (base := w.heap.size) (n := d.length) (v := u3) (xs := cstr d) el_str rfl rfl rfl ((own_only HO.out (Only.of_below (S := fun _ => False) (Below.refl _ _)) (fun _ _ h => h)).drew.alloc _) rfl (heap_alloc_new wr.drew _) rfl (one1 rfl) (by decide) (by have := HDL.out; unfold maxLen; omega) (by have := HDL.out; omega) (by have := HB.out.size; simp; omega) ?_; intro g2 cap2 w2 hown2 hbel2))
          have HO2 := Hd.mk hown2
          have HB2 := Hd.mk hbel2
          clear hown2 hbel2
          go_wp2_with fail
          go_roundg (q.drop (fill q 32).length).length
          case rel =>
            refine ⟨d ++ [fill q 32], q.drop (fill q 32).length, rfl, by rw [HC.out, HST.out]; simp, fun x hx => HQ.out x (List.mem_of_mem_drop hx), rfl, by rw [bl_drop]; have := HBQ.out; omega, ?_, ?_, ?_⟩
            · have := List.length_pos_iff.2 HFL.out.2
              have h3 : 0 < q.length := by
                rcases q with _ | ⟨y, q⟩
                · simp at h1
                · simp
              have := HDL0.out
              rw [List.length_drop, List.length_append, List.length_singleton]; omega
            · have := HO2.out
              rw [cstr_append, List.length_append, List.length_singleton]; exact this
            · refine HB.out.trans ⟨HB2.out.os, HB2.out.tape, HB2.out.output, ?_, fun i hi => ?_⟩
              · have := HB2.out.size; simp at this; omega
              · rw [HB2.out.block i hi]; exact Below.heap_alloc wr.drew _ i (by have := HB.out.size; simp; omega)
          case measure =>
            have := List.length_pos_iff.2 HFL.out.2
            have h3 : 0 < q.length := by
              rcases q with _ | ⟨y, q⟩
              · simp at h1
              · simp
            have := HG.out
            rw [List.length_drop]; omega
    · have hi : ¬ ((32 : Int) < (bl q : Int)) := by omega
      have hcl := cutR_last h1
      cases q with
      | nil =>
        have HCL : Hd (cutR rs = d) := ⟨by rw [HC.out, hcl, if_pos rfl, List.append_nil]⟩
        have hbq0 : bl [] = 0 := rfl
        clear hcl hi h1 hlq hbq
        simp only [U.encs_nil]
        go_wp2_with fail
        go_ret
        rw [HCL.out]
        exact ⟨_, rfl, HB.out, HO.out⟩
      | cons y q =>
        have HCL : Hd (cutR rs = d ++ [y :: q]) := ⟨by rw [HC.out, hcl, if_neg (by simp)]⟩
        have hne : (U.encs (y :: q) == []) = false := by rw [beq_eq_false_iff_ne]; intro e; have := bl_pos (rs := y :: q) (by simp); unfold bl at this; rw [e] at this; simp at this
        generalize y :: q = q2 at *
        clear hcl
        go_wp2_with (at_builtin; refine append_lit el_str #[.string ⟨(U.encs q2).toArray⟩] HO.out rfl rfl rfl rfl rfl (one1 rfl) (by have := HDL.out; unfold maxLen; omega) (by have := HDL.out; omega) HB.out.size ?_; intro v1 w1 hown1 hbel1 _; have HO1 := Hd.mk hown1; have HB1 := Hd.mk hbel1; clear hown1 hbel1)
        go_ret
        rw [HCL.out]
        refine ⟨_, rfl, HB.out.trans HB1.out, ?_⟩
        have := HO1.out
        rw [cstr_append, List.length_append, List.length_singleton]
        exact this
end Go.Proofs.Ytgokmldngnmmhaa
