/- Walks of utf.put, utf.Text, utf.FromHalves. -/
import Derived.Test.YthbhhnfhjppbdaaDoorUtfR
namespace Go.Proofs.YthbhhnfhjppbdaaDoor
open Go.RowKit
set_option maxRecDepth 100000
theorem i32and63 (r : Int) (h : 0 ≤ r) (h2 : r ≤ 1114111) : bits .and .i32 r 63 = r % 64 := by
  obtain ⟨n, rfl⟩ := Int.eq_ofNat_of_zero_le h
  have e : n &&& 63 = n % 64 := Nat.and_two_pow_sub_one_eq_mod n 6
  have h1 : (BitVec.ofInt 32 (n : Int)).toNat = n := by
    rw [BitVec.ofInt_natCast, BitVec.toNat_ofNat]; exact Nat.mod_eq_of_lt (by omega)
  show IntKind.i32.wrap ((BitVec.ofInt 32 (n : Int) &&& BitVec.ofInt 32 63).toNat : Int) = _
  rw [BitVec.toNat_and, h1, show (BitVec.ofInt 32 63).toNat = 63 from rfl, e, IntKind.wrap_i32]
  omega
theorem el_u8 : El Tryd.prog 104 5 1 1 := El.mk' Tryd.underlying104 (by kernel_rfl) (by decide)
/-- Bytes as cells. -/
def u8s (l : U.Bs) : List Value := l.map fun c => .int .u8 (c.toNat : Int)
theorem u8s_append (a b : U.Bs) : u8s (a ++ b) = u8s a ++ u8s b := by simp [u8s]
theorem u8s_by8_1 {a : Int} (ha : 0 ≤ a) (ha2 : a < 256) : u8s [U.by8 a] = #[Value.int .u8 a].toList := by
  simp [u8s, U.by8_toNat ha ha2]
theorem u8s_by8_2 {a b : Int} (ha : 0 ≤ a) (ha2 : a < 256) (hb : 0 ≤ b) (hb2 : b < 256) : u8s [U.by8 a, U.by8 b] = #[Value.int .u8 a, Value.int .u8 b].toList := by
  simp [u8s, U.by8_toNat ha ha2, U.by8_toNat hb hb2]
theorem u8s_by8_3 {a b c : Int} (ha : 0 ≤ a) (ha2 : a < 256) (hb : 0 ≤ b) (hb2 : b < 256) (hc : 0 ≤ c) (hc2 : c < 256) : u8s [U.by8 a, U.by8 b, U.by8 c] = #[Value.int .u8 a, Value.int .u8 b, Value.int .u8 c].toList := by
  simp [u8s, U.by8_toNat ha ha2, U.by8_toNat hb hb2, U.by8_toNat hc hc2]
theorem u8s_by8_4 {a b c d : Int} (ha : 0 ≤ a) (ha2 : a < 256) (hb : 0 ≤ b) (hb2 : b < 256) (hc : 0 ≤ c) (hc2 : c < 256) (hd : 0 ≤ d) (hd2 : d < 256) :
    u8s [U.by8 a, U.by8 b, U.by8 c, U.by8 d] = #[Value.int .u8 a, Value.int .u8 b, Value.int .u8 c, Value.int .u8 d].toList := by
  simp [u8s, U.by8_toNat ha ha2, U.by8_toNat hb hb2, U.by8_toNat hc hc2, U.by8_toNat hd hd2]
def PutPost (base n : Nat) (xs : List Value) (r : Int) (w : World) (e : Ending) (w' : World) : Prop :=
  ∃ v', e = .returned v' ∧ w'.ownsRow base 5 1 v' (n + U.wid r) (xs ++ u8s (U.enc r)) ∧ Below base w w'
set_option maxHeartbeats 2000000 in
theorem put_calls {base n : Nat} {v : Value} {xs : List Value} {r : Int} {w : World} (hr : U.right r = true) (hown : w.ownsRow base 5 1 v n xs) (hb : base ≤ w.heap.size) (hn : n + 4 ≤ 140737488355328) :
    Calls Tryd.prog 90 #[v, .int .i32 r] w (PutPost base n xs r w) := by
  have hr' := U.right_iff.1 hr
  have HO := Hd.mk hown
  have hr0 : 0 ≤ r := by omega
  have hr1 : r ≤ 1114111 := by omega
  clear hr hr' hown
  by_cases c1 : r < 128
  · have e1 : u8s (U.enc r) = #[Value.int .u8 r].toList := by unfold U.enc; rw [if_pos c1]; exact u8s_by8_1 (by omega) (by omega)
    have e2 : U.wid r = 1 := by unfold U.wid; rw [if_pos c1]
    unfold PutPost
    rw [e1, e2]
    have HE := Hd.mk (And.intro e1 e2)
    clear e1 e2
    go_enter Tryd.func90, Tryd.ntmps90
    go_wp2_with (at_builtin; refine append_lit el_u8 #[.int .u8 r] HO.out rfl rfl rfl rfl rfl (one1 rfl) (by unfold maxLen; omega) (by omega) hb ?_; intro v1 w1 hown1 hbel1 _)
    go_ret
    exact ⟨v1, rfl, hown1, hbel1⟩
  have a1 := i32and63 r hr0 hr1
  by_cases c2 : r < 2048
  · have e1 : u8s (U.enc r) = #[Value.int .u8 (192 + r / 64), Value.int .u8 (128 + r % 64)].toList := by unfold U.enc; rw [if_neg c1, if_pos c2]; exact u8s_by8_2 (by omega) (by omega) (by omega) (by omega)
    have e2 : U.wid r = 2 := by unfold U.wid; rw [if_neg c1, if_pos c2]
    unfold PutPost
    rw [e1, e2]
    clear e1 e2
    go_enter Tryd.func90, Tryd.ntmps90
    go_wp2_with (at_builtin; refine append_lit el_u8 #[.int .u8 (192 + r / 64), .int .u8 (128 + r % 64)] HO.out rfl rfl rfl rfl rfl (one2 rfl rfl) (by unfold maxLen; omega) (by omega) hb ?_; intro v1 w1 hown1 hbel1 _)
    go_ret
    exact ⟨v1, rfl, hown1, hbel1⟩
  have a2 := i32and63 (r / 64) (by omega) (by omega)
  by_cases c3 : r < 65536
  · have e1 : u8s (U.enc r) = #[Value.int .u8 (224 + r / 4096), Value.int .u8 (128 + r / 64 % 64), Value.int .u8 (128 + r % 64)].toList := by
      unfold U.enc; rw [if_neg c1, if_neg c2, if_pos c3]; exact u8s_by8_3 (by omega) (by omega) (by omega) (by omega) (by omega) (by omega)
    have e2 : U.wid r = 3 := by unfold U.wid; rw [if_neg c1, if_neg c2, if_pos c3]
    unfold PutPost
    rw [e1, e2]
    clear e1 e2
    go_enter Tryd.func90, Tryd.ntmps90
    go_wp2_with (at_builtin; refine append_lit el_u8 #[.int .u8 (224 + r / 4096), .int .u8 (128 + r / 64 % 64), .int .u8 (128 + r % 64)] HO.out rfl rfl rfl rfl rfl (one3 rfl rfl rfl) (by unfold maxLen; omega) (by omega) hb ?_; intro v1 w1 hown1 hbel1 _)
    go_ret
    exact ⟨v1, rfl, hown1, hbel1⟩
  · have a3 := i32and63 (r / 4096) (by omega) (by omega)
    have e1 : u8s (U.enc r) = #[Value.int .u8 (240 + r / 262144), Value.int .u8 (128 + r / 4096 % 64), Value.int .u8 (128 + r / 64 % 64), Value.int .u8 (128 + r % 64)].toList := by
      unfold U.enc; rw [if_neg c1, if_neg c2, if_neg c3]; exact u8s_by8_4 (by omega) (by omega) (by omega) (by omega) (by omega) (by omega) (by omega) (by omega)
    have e2 : U.wid r = 4 := by unfold U.wid; rw [if_neg c1, if_neg c2, if_neg c3]
    unfold PutPost
    rw [e1, e2]
    clear e1 e2
    go_enter Tryd.func90, Tryd.ntmps90
    go_wp2_with (at_builtin; refine append_lit el_u8 #[.int .u8 (240 + r / 262144), .int .u8 (128 + r / 4096 % 64), .int .u8 (128 + r / 64 % 64), .int .u8 (128 + r % 64)] HO.out rfl rfl rfl rfl rfl (one4 rfl rfl rfl rfl) (by unfold maxLen; omega) (by omega) hb ?_; intro v1 w1 hown1 hbel1 _)
    go_ret
    exact ⟨v1, rfl, hown1, hbel1⟩
/-- l begins with the runes pre; behind them none is left, or what is next is no rune. -/
structure Tp (l pre : List Int) (rest : List Int) : Prop where
  all : U.AllR pre
  eq : l = pre ++ rest
  bad : ∀ r t, rest = r :: t → U.right r = false
theorem tp_exists (l : List Int) : ∃ pre rest, Tp l pre rest := by
  induction l with
  | nil => exact ⟨[], [], fun r hr => by simp at hr, rfl, fun r t h => by cases h⟩
  | cons r l ih =>
    cases hr : U.right r with
    | false => exact ⟨[], r :: l, fun r hr => by simp at hr, rfl, fun r' t h => by cases h; exact hr⟩
    | true =>
      obtain ⟨pre, rest, h1, h2, h3⟩ := ih
      refine ⟨r :: pre, rest, ?_, by rw [h2]; rfl, h3⟩
      intro x hx
      rcases List.mem_cons.1 hx with rfl | hx
      · exact hr
      · exact h1 x hx
theorem enc_len_le (rs : List Int) : (U.encs rs).length ≤ 4 * rs.length := by
  induction rs with
  | nil => simp [U.encs_nil]
  | cons r rs ih =>
    rw [U.encs_cons, List.length_append, U.enc_length, List.length_cons]
    have := U.wid_le r
    omega
def TextPost (pre rest : List Int) (w : World) (e : Ending) (w' : World) : Prop :=
  Below w.heap.size w w' ∧ (rest = [] → e = .returned (.tuple #[.string ⟨(U.encs pre).toArray⟩, .nilIface])) ∧
    (rest ≠ [] → ∃ g, e = .returned (.tuple #[.string ⟨#[]⟩, atV g]) ∧ AtBlk w' g 3 pre.length)
set_option maxHeartbeats 2000000 in
theorem text_calls {l pre rest : List Int} {v : Value} {n : Nat} {w : World} (h : Tp l pre rest) (hsl : Sl w 1 v n (i32s l)) (hn : n ≤ 4398046511104) :
    Calls Tryd.prog 76 #[v] w (TextPost pre rest w) := by
  have hln : l.length = n := by have := hsl.len; simpa [i32s] using this
  have hpl : pre.length ≤ n := by rw [← hln, h.eq]; simp
  have HLN := Hd.mk hln
  have HSL := Hd.mk hsl
  obtain ⟨A, c, rfl, _⟩ := hsl
  have H := Hd.mk h
  clear h hln
  go_enter Tryd.func76, Tryd.ntmps76
  go_wp2_with fail
  go_loopw [2, 3, 4, 9] (fun t e b i wr => t = .string ⟨#[]⟩ ∧ e = .nilIface ∧ ∃ k : Nat, k ≤ pre.length ∧ i = .int .i64 k ∧ wr.ownsRow w.heap.size 5 1 b (U.encs (pre.take k)).length (u8s (U.encs (pre.take k))) ∧ Below w.heap.size w wr) (fun _ _ _ i _ => n - (intOf i).toNat)
  case atStart => exact ⟨rfl, rfl, 0, by omega, rfl, World.ownsRow_nil _ _ _ _, Below.refl _ _⟩
  case round =>
    obtain ⟨rfl, rfl, k, hk, rfl, hown, hbel⟩ := hrel
    have hb0 := hbel.size
    have HB := Hd.mk hbel
    by_cases hkn : k < n
    · obtain ⟨ad, c', u, hv, _, hu, hc⟩ := (HSL.out.below hbel).at_ hkn
      cases hv
      have hlk : k < l.length := by rw [HLN.out]; exact hkn
      have hu2 : u = .int .i32 l[k] := by
        unfold i32s at hu
        rw [List.getElem?_map, List.getElem?_eq_getElem hlk] at hu
        simpa using hu.symm
      subst hu2
      by_cases hlt : k < pre.length
      · have hr : U.right l[k] = true := by
          have e : l[k] = pre[k] := by
            have := H.out.eq
            subst this
            exact List.getElem_append_left hlt
          rw [e]; exact H.out.all _ (List.getElem_mem hlt)
        have he : pre[k] = l[k] := by
          have := H.out.eq
          subst this
          exact (List.getElem_append_left hlt).symm
        have HL : (U.encs (pre.take k)).length ≤ 4 * k := by
          have := enc_len_le (pre.take k)
          rw [List.length_take] at this
          omega
        generalize l[k] = r at hr he hc
        have HR := Hd.mk hr
        have HE := Hd.mk he
        have HOW := Hd.mk hown
        clear hr he hown hbel hu hlk
        go_wp2_with (first | (go_at_call 81; refine (right_true HR.out _).mono ?_; rintro e w' ⟨rfl, rfl⟩) | (go_at_call 90; refine (put_calls HR.out HOW.out hb0 (by omega)).mono ?_; rintro e w' ⟨v', rfl, hown', hbel'⟩))
        have e1 : U.encs (pre.take (k + 1)) = U.encs (pre.take k) ++ U.enc r := by
          rw [List.take_succ_eq_append_getElem hlt, U.encs_append, U.encs_cons, U.encs_nil, List.append_nil, HE.out]
        rw [← u8s_append, ← e1] at hown'
        have e2 : (U.encs (pre.take k)).length + U.wid r = (U.encs (pre.take (k + 1))).length := by rw [e1, List.length_append, U.enc_length]
        rw [e2] at hown'
        refine ⟨⟨rfl, rfl, k + 1, by omega, by go_num, hown', HB.out.trans hbel'⟩, ?_⟩
        simp only [intOf]; omega
      · obtain rfl : k = pre.length := by omega
        have hr : U.right l[pre.length] = false := by
          have := H.out.eq
          have hl2 : pre.length < (pre ++ rest).length := by rw [← this]; exact hlk
          have hrl : 0 < rest.length := by simpa using hl2
          match hrest : rest, hrl with
          | r :: t, _ =>
            have e : l[pre.length] = r := by subst this; simp
            rw [e]; exact H.out.bad r t rfl
        have hne : rest ≠ [] := by
          intro hr0
          have := H.out.eq
          rw [hr0, List.append_nil] at this
          subst this; omega
        generalize l[pre.length] = r at hr hc
        have HR := Hd.mk hr
        have HNE := Hd.mk hne
        clear hr hown hbel hu hlk hne hlt
        go_wp2_with (first | (go_at_call 81; refine (right_false HR.out _).mono ?_; rintro e w' ⟨rfl, rfl⟩))
        go_ret2
        exact ⟨HB.out.alloc (by omega) _, fun h => absurd h HNE.out, fun _ => ⟨wr.heap.size, rfl, heap_alloc_new wr _⟩⟩
    · obtain rfl : k = pre.length := by omega
      have hrest : rest = [] := by
        have := congrArg List.length H.out.eq
        rw [HLN.out, List.length_append] at this
        exact List.eq_nil_of_length_eq_zero (by omega)
      rw [List.take_length] at hown
      have hsl := Sl.of_own hown
      have hcv := conv_bytes (P := Tryd.prog) Tryd.underlying104 Tryd.underlying5 Tryd.underlying9 hsl
      have HRE := Hd.mk hrest
      clear hown hbel hsl hrest
      go_wp2_with fail
      go_ret2
      exact ⟨HB.out, fun _ => rfl, fun h => absurd HRE.out h⟩
end Go.Proofs.YthbhhnfhjppbdaaDoor
