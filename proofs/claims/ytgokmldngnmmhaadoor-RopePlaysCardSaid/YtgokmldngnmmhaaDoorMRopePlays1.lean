/- Several texts of the proof, one behind the other: UtfM, UtfW, UtfC, UtfS, SliceL, Ext. -/
import Derived.WalkKit
import Derived.Test.YtgokmldngnmmhaaDoorProg
import Derived.WalkSpells
import Derived.Outline
import Derived.IntWalk
import Derived.Below
import Derived.Laws.AppendOwn
import Derived.Laws.OwnMore
import Derived.Deep.AppendLies
import Derived.OwnWalk
import Derived.Laws.AppendOwnNone
import Derived.Laws.BytesArg
import Derived.Deep.Draws
/- Plain facts about UTF-8 and UTF-16: the bytes of a rune, the rune at the beginning of bytes, one undoes the other. No program in sight. -/
namespace Go.Proofs.YtgokmldngnmmhaaDoor
/-- A fact kept from the walk, which takes every plain hypothesis for a rule. -/
structure Hd (p : Prop) : Prop where
  out : p
namespace U
abbrev Bs := List UInt8
def by8 (n : Int) : UInt8 := UInt8.ofNat n.toNat
def right (r : Int) : Bool := decide ((0 ≤ r ∧ r < 55296) ∨ (57344 ≤ r ∧ r ≤ 1114111))
theorem right_iff {r : Int} : right r = true ↔ (0 ≤ r ∧ r < 55296) ∨ (57344 ≤ r ∧ r ≤ 1114111) := by unfold right; simp only [decide_eq_true_eq]
def enc (r : Int) : Bs :=
  if r < 128 then [by8 r]
  else if r < 2048 then [by8 (192 + r / 64), by8 (128 + r % 64)]
  else if r < 65536 then [by8 (224 + r / 4096), by8 (128 + r / 64 % 64), by8 (128 + r % 64)]
  else [by8 (240 + r / 262144), by8 (128 + r / 4096 % 64), by8 (128 + r / 64 % 64), by8 (128 + r % 64)]
def cont (c : UInt8) : Bool := decide (128 ≤ c.toNat ∧ c.toNat < 192)
theorem cont_iff {c : UInt8} : cont c = true ↔ 128 ≤ c.toNat ∧ c.toNat < 192 := by unfold cont; simp only [decide_eq_true_eq]
def r2 (a b : UInt8) : Int := (a.toNat : Int) % 32 * 64 + (b.toNat : Int) % 64
def r3 (a b c : UInt8) : Int := ((a.toNat : Int) % 16 * 64 + (b.toNat : Int) % 64) * 64 + (c.toNat : Int) % 64
def r4 (a b c d : UInt8) : Int := (((a.toNat : Int) % 8 * 64 + (b.toNat : Int) % 64) * 64 + (c.toNat : Int) % 64) * 64 + (d.toNat : Int) % 64
/-- The rune at the beginning of bytes, and how many bytes it takes; (0, 0): there is none. -/
def next : Bs → Int × Nat
  | [] => (0, 0)
  | a :: t =>
    if a.toNat < 128 then (a.toNat, 1)
    else if a.toNat < 194 then (0, 0)
    else if a.toNat < 224 then match t with
      | b :: _ => if cont b = true then (r2 a b, 2) else (0, 0)
      | _ => (0, 0)
    else if a.toNat < 240 then match t with
      | b :: c :: _ => if cont b = true ∧ cont c = true ∧ right (r3 a b c) = true ∧ 2048 ≤ r3 a b c then (r3 a b c, 3) else (0, 0)
      | _ => (0, 0)
    else if a.toNat < 245 then match t with
      | b :: c :: d :: _ => if cont b = true ∧ cont c = true ∧ cont d = true ∧ right (r4 a b c d) = true ∧ 65536 ≤ r4 a b c d then (r4 a b c d, 4) else (0, 0)
      | _ => (0, 0)
    else (0, 0)
def wid (r : Int) : Nat := if r < 128 then 1 else if r < 2048 then 2 else if r < 65536 then 3 else 4
theorem enc_length (r : Int) : (enc r).length = wid r := by
  unfold enc wid; repeat' split
  all_goals rfl
theorem wid_pos (r : Int) : 0 < wid r := by unfold wid; repeat' split
                                            all_goals omega
theorem wid_le (r : Int) : wid r ≤ 4 := by unfold wid; repeat' split
                                           all_goals omega
theorem enc_ne (r : Int) : enc r ≠ [] := fun h => by have := wid_pos r; rw [← enc_length, h] at this; simp at this
theorem by8_toNat {n : Int} (h : 0 ≤ n) (h2 : n < 256) : ((by8 n).toNat : Int) = n := by
  unfold by8
  rw [UInt8.toNat_ofNat']
  omega
theorem by8_self (c : UInt8) : by8 (c.toNat : Int) = c := by
  unfold by8; rw [Int.toNat_natCast]; exact UInt8.ofNat_toNat
theorem by8_eq {c : UInt8} {n : Int} (h : (c.toNat : Int) = n) : by8 n = c := by rw [← h]; exact by8_self c
theorem by8_inj {a b : Int} (ha : 0 ≤ a) (ha2 : a < 256) (hb : 0 ≤ b) (hb2 : b < 256) (h : by8 a = by8 b) : a = b := by
  have := congrArg (fun c => (c.toNat : Int)) h
  simp only [by8_toNat ha ha2, by8_toNat hb hb2] at this
  exact this
/-- A rune's bytes, with whatever behind, begin with that rune. -/
theorem next_enc {r : Int} (h : right r = true) (t : Bs) : next (enc r ++ t) = (r, wid r) := by
  have hr := right_iff.1 h
  unfold enc
  split
  · rename_i h1
    have e : ((by8 r).toNat : Int) = r := by8_toNat (by omega) (by omega)
    simp only [List.cons_append, List.nil_append, next]
    rw [if_pos (by omega), e]; unfold wid; rw [if_pos h1]
  · rename_i h1
    split
    · rename_i h2
      have e1 : ((by8 (192 + r / 64)).toNat : Int) = 192 + r / 64 := by8_toNat (by omega) (by omega)
      have e2 : ((by8 (128 + r % 64)).toNat : Int) = 128 + r % 64 := by8_toNat (by omega) (by omega)
      simp only [List.cons_append, List.nil_append, next]
      rw [if_neg (by omega), if_neg (by omega), if_pos (by omega), if_pos (cont_iff.2 (by omega))]
      unfold r2 wid
      rw [e1, e2, if_neg h1, if_pos h2]
      congr 1; omega
    · rename_i h2
      split
      · rename_i h3
        have e1 : ((by8 (224 + r / 4096)).toNat : Int) = 224 + r / 4096 := by8_toNat (by omega) (by omega)
        have e2 : ((by8 (128 + r / 64 % 64)).toNat : Int) = 128 + r / 64 % 64 := by8_toNat (by omega) (by omega)
        have e3 : ((by8 (128 + r % 64)).toNat : Int) = 128 + r % 64 := by8_toNat (by omega) (by omega)
        have er : r3 (by8 (224 + r / 4096)) (by8 (128 + r / 64 % 64)) (by8 (128 + r % 64)) = r := by
          unfold r3; rw [e1, e2, e3]; omega
        simp only [List.cons_append, List.nil_append, next]
        rw [if_neg (by omega), if_neg (by omega), if_neg (by omega), if_pos (by omega), er, if_pos ⟨cont_iff.2 (by omega), cont_iff.2 (by omega), h, by omega⟩]
        unfold wid
        rw [if_neg h1, if_neg h2, if_pos h3]
      · rename_i h3
        have e1 : ((by8 (240 + r / 262144)).toNat : Int) = 240 + r / 262144 := by8_toNat (by omega) (by omega)
        have e2 : ((by8 (128 + r / 4096 % 64)).toNat : Int) = 128 + r / 4096 % 64 := by8_toNat (by omega) (by omega)
        have e3 : ((by8 (128 + r / 64 % 64)).toNat : Int) = 128 + r / 64 % 64 := by8_toNat (by omega) (by omega)
        have e4 : ((by8 (128 + r % 64)).toNat : Int) = 128 + r % 64 := by8_toNat (by omega) (by omega)
        have er : r4 (by8 (240 + r / 262144)) (by8 (128 + r / 4096 % 64)) (by8 (128 + r / 64 % 64)) (by8 (128 + r % 64)) = r := by
          unfold r4; rw [e1, e2, e3, e4]; omega
        simp only [List.cons_append, List.nil_append, next]
        rw [if_neg (by omega), if_neg (by omega), if_neg (by omega), if_neg (by omega), if_pos (by omega), er,
          if_pos ⟨cont_iff.2 (by omega), cont_iff.2 (by omega), cont_iff.2 (by omega), h, by omega⟩]
        unfold wid
        rw [if_neg h1, if_neg h2, if_neg h3]
/-- Where a rune is found, the bytes begin with its bytes. -/
theorem next_pos (s : Bs) (h : (next s).2 ≠ 0) : right (next s).1 = true ∧ (next s).2 = wid (next s).1 ∧ s = enc (next s).1 ++ s.drop (next s).2 := by
  match s with
  | [] => simp [next] at h
  | a :: t =>
    simp only [next] at h ⊢
    by_cases h1 : a.toNat < 128
    · rw [if_pos h1] at h ⊢
      refine ⟨right_iff.2 (by omega), by unfold wid; rw [if_pos (by omega)], ?_⟩
      unfold enc; rw [if_pos (by omega)]; simp [by8_self]
    rw [if_neg h1] at h ⊢
    by_cases h2 : a.toNat < 194
    · rw [if_pos h2] at h; exact absurd rfl h
    rw [if_neg h2] at h ⊢
    by_cases h3 : a.toNat < 224
    · rw [if_pos h3] at h ⊢
      match t with
      | [] => exact absurd rfl h
      | b :: t =>
        dsimp only at h ⊢
        by_cases hb : cont b = true
        · rw [if_pos hb] at h ⊢
          have hb' := cont_iff.1 hb
          have e : r2 a b = (a.toNat : Int) % 32 * 64 + (b.toNat : Int) % 64 := rfl
          refine ⟨right_iff.2 (by dsimp only; omega), by unfold wid; dsimp only; rw [if_neg (by omega), if_pos (by omega)], ?_⟩
          unfold enc; dsimp only
          rw [if_neg (by omega), if_pos (by omega), by8_eq (c := a) (by omega), by8_eq (c := b) (by omega)]; rfl
        · rw [if_neg hb] at h; exact absurd rfl h
    rw [if_neg h3] at h ⊢
    by_cases h4 : a.toNat < 240
    · rw [if_pos h4] at h ⊢
      match t with
      | [] => exact absurd rfl h
      | [_] => exact absurd rfl h
      | b :: c :: t =>
        dsimp only at h ⊢
        by_cases hb : cont b = true ∧ cont c = true ∧ right (r3 a b c) = true ∧ 2048 ≤ r3 a b c
        · rw [if_pos hb] at h ⊢
          obtain ⟨hb1, hc1, hr, hlo⟩ := hb
          have hb' := cont_iff.1 hb1
          have hc' := cont_iff.1 hc1
          have e : r3 a b c = ((a.toNat : Int) % 16 * 64 + (b.toNat : Int) % 64) * 64 + (c.toNat : Int) % 64 := rfl
          refine ⟨hr, by unfold wid; dsimp only; rw [if_neg (by omega), if_neg (by omega), if_pos (by omega)], ?_⟩
          unfold enc; dsimp only
          rw [if_neg (by omega), if_neg (by omega), if_pos (by omega), by8_eq (c := a) (by omega), by8_eq (c := b) (by omega), by8_eq (c := c) (by omega)]; rfl
        · rw [if_neg hb] at h; exact absurd rfl h
    rw [if_neg h4] at h ⊢
    by_cases h5 : a.toNat < 245
    · rw [if_pos h5] at h ⊢
      match t with
      | [] => exact absurd rfl h
      | [_] => exact absurd rfl h
      | [_, _] => exact absurd rfl h
      | b :: c :: d :: t =>
        dsimp only at h ⊢
        by_cases hb : cont b = true ∧ cont c = true ∧ cont d = true ∧ right (r4 a b c d) = true ∧ 65536 ≤ r4 a b c d
        · rw [if_pos hb] at h ⊢
          obtain ⟨hb1, hc1, hd1, hr, hlo⟩ := hb
          have hb' := cont_iff.1 hb1
          have hc' := cont_iff.1 hc1
          have hd' := cont_iff.1 hd1
          have e : r4 a b c d = (((a.toNat : Int) % 8 * 64 + (b.toNat : Int) % 64) * 64 + (c.toNat : Int) % 64) * 64 + (d.toNat : Int) % 64 := rfl
          refine ⟨hr, by unfold wid; dsimp only; rw [if_neg (by omega), if_neg (by omega), if_neg (by omega)], ?_⟩
          unfold enc; dsimp only
          rw [if_neg (by omega), if_neg (by omega), if_neg (by omega), by8_eq (c := a) (by omega), by8_eq (c := b) (by omega), by8_eq (c := c) (by omega), by8_eq (c := d) (by omega)]; rfl
        · rw [if_neg hb] at h; exact absurd rfl h
    rw [if_neg h5] at h; exact absurd rfl h
end U
end Go.Proofs.YtgokmldngnmmhaaDoor
/- Walks of package utf's small functions: size, right, next, one, Plus, In. -/
namespace Go.Proofs.YtgokmldngnmmhaaDoor
open Go.RowKit
set_option maxRecDepth 100000
theorem idx0 (a : UInt8) (l : List UInt8) (h) : ({ data := (a :: l).toArray } : ByteArray)[0]'h = a := rfl
theorem idx1 (a b : UInt8) (l : List UInt8) (h) : ({ data := (a :: b :: l).toArray } : ByteArray)[1]'h = b := rfl
theorem idx2 (a b c : UInt8) (l : List UInt8) (h) : ({ data := (a :: b :: c :: l).toArray } : ByteArray)[2]'h = c := rfl
theorem idx3 (a b c d : UInt8) (l : List UInt8) (h) : ({ data := (a :: b :: c :: d :: l).toArray } : ByteArray)[3]'h = d := rfl
theorem and192 (c : UInt8) : bits .and .u8 (c.toNat : Int) 192 = ((c.toNat / 64 * 64 : Nat) : Int) := by
  rw [show (192 : Int) = ((192 : Nat) : Int) from rfl, u8_and_nat _ _ c.toNat_lt (by decide)]
  have : ∀ n : Fin 256, n.val &&& 192 = n.val / 64 * 64 := by decide +kernel
  rw [this ⟨c.toNat, c.toNat_lt⟩]
theorem contT {c : UInt8} (h : U.cont c = true) : (bits .and .u8 (c.toNat : Int) 192 != 128) = false := by
  have := U.cont_iff.1 h
  rw [and192, bne_eq_false_iff_eq]; omega
theorem contF {c : UInt8} (h : ¬ U.cont c = true) : (bits .and .u8 (c.toNat : Int) 192 != 128) = true := by
  have h2 := mt U.cont_iff.2 h
  have := c.toNat_lt
  rw [and192, bne_iff_ne]; omega
theorem or_join (x y k : Nat) (hx : x * k < 2147483648) (hk : k = 64) (hy : y < 64) : bits .or .i32 ((x * k : Nat) : Int) (y : Int) = ((x * k + y : Nat) : Int) := by
  subst hk
  have e : (x * 64) ||| y = x * 64 + y := nat_join 6 (x * 64) y (by omega) hy
  have h1 : (BitVec.ofInt 32 ((x * 64 : Nat) : Int)).toNat = x * 64 := by
    rw [BitVec.ofInt_natCast, BitVec.toNat_ofNat]; exact Nat.mod_eq_of_lt (by omega)
  have h2 : (BitVec.ofInt 32 (y : Int)).toNat = y := by
    rw [BitVec.ofInt_natCast, BitVec.toNat_ofNat]; exact Nat.mod_eq_of_lt (by omega)
  show IntKind.i32.wrap ((BitVec.ofInt 32 ((x * 64 : Nat) : Int) ||| BitVec.ofInt 32 (y : Int)).toNat : Int) = _
  rw [BitVec.toNat_or, h1, h2, e, IntKind.wrap_i32]
  have := Nat.or_lt_two_pow (n := 31) (x := x * 64) (y := y) (by omega) (by omega)
  rw [e] at this
  omega
theorem join_i (x y : Int) (h0 : 0 ≤ x) (hx : x * 64 < 2147483648) (hy0 : 0 ≤ y) (hy : y < 64) : bits .or .i32 (x * 64) y = x * 64 + y := by
  obtain ⟨x, rfl⟩ := Int.eq_ofNat_of_zero_le h0
  obtain ⟨y, rfl⟩ := Int.eq_ofNat_of_zero_le hy0
  have := or_join x y 64 (by omega) rfl (by omega)
  simpa using this
theorem or2 (a b : UInt8) : bits .or .i32 ((a.toNat : Int) % 32 * 64) ((b.toNat : Int) % 64) = U.r2 a b := join_i _ _ (by omega) (by omega) (by omega) (by omega)
theorem or3a (a b : UInt8) : bits .or .i32 ((a.toNat : Int) % 16 * 64) ((b.toNat : Int) % 64) = (a.toNat : Int) % 16 * 64 + (b.toNat : Int) % 64 := join_i _ _ (by omega) (by omega) (by omega) (by omega)
theorem or4a (a b : UInt8) : bits .or .i32 ((a.toNat : Int) % 8 * 64) ((b.toNat : Int) % 64) = (a.toNat : Int) % 8 * 64 + (b.toNat : Int) % 64 := join_i _ _ (by omega) (by omega) (by omega) (by omega)
theorem or3 (a b c : UInt8) : bits .or .i32 (((a.toNat : Int) % 16 * 64 + (b.toNat : Int) % 64) * 64) ((c.toNat : Int) % 64) = U.r3 a b c := join_i _ _ (by omega) (by omega) (by omega) (by omega)
theorem or4b (a b c : UInt8) : bits .or .i32 (((a.toNat : Int) % 8 * 64 + (b.toNat : Int) % 64) * 64) ((c.toNat : Int) % 64) = ((a.toNat : Int) % 8 * 64 + (b.toNat : Int) % 64) * 64 + (c.toNat : Int) % 64 := join_i _ _ (by omega) (by omega) (by omega) (by omega)
theorem or4 (a b c d : UInt8) : bits .or .i32 ((((a.toNat : Int) % 8 * 64 + (b.toNat : Int) % 64) * 64 + (c.toNat : Int) % 64) * 64) ((d.toNat : Int) % 64) = U.r4 a b c d := join_i _ _ (by omega) (by omega) (by omega) (by omega)

/-- size. -/
def szc (c : Nat) : Int × Int := if c < 128 then (1, c) else if c < 194 then (0, 0) else if c < 224 then (2, (c : Int) % 32) else if c < 240 then (3, (c : Int) % 16) else if c < 245 then (4, (c : Int) % 8) else (0, 0)
set_option maxHeartbeats 400000 in
theorem size_calls (c : UInt8) (w : World) :
    Calls Tryd.prog 116 #[.int .u8 c.toNat] w fun e w' => e = .returned (.tuple #[.int .i64 (szc c.toNat).1, .int .i32 (szc c.toNat).2]) ∧ w = w' := by
  have h2 := c.toNat_lt
  generalize c.toNat = n at h2 ⊢
  go_enter Tryd.func116, Tryd.ntmps116
  go_wp2
  all_goals go_ret2
  all_goals refine ⟨?_, rfl⟩
  all_goals unfold szc
  · rw [if_pos (by omega)]; rfl
  · rw [if_neg (by omega), if_neg (by omega), if_pos (by omega)]; rfl
  · rw [if_neg (by omega), if_neg (by omega), if_neg (by omega), if_pos (by omega)]; rfl
  · rw [if_neg (by omega), if_neg (by omega), if_neg (by omega), if_neg (by omega), if_pos (by omega)]; rfl
  · rw [if_neg (by omega), if_neg (by omega), if_neg (by omega), if_neg (by omega), if_neg (by omega)]; rfl
  · rw [if_neg (by omega), if_pos (by omega)]; rfl
theorem right_of {r : Int} (b : Bool) (h : (b = true) ↔ (0 ≤ r ∧ r < 55296) ∨ (57344 ≤ r ∧ r ≤ 1114111)) : Ending.returned (.bool b) = .returned (.bool (U.right r)) := by
  rw [Bool.eq_iff_iff.2 (h.trans U.right_iff.symm)]
set_option maxHeartbeats 400000 in
theorem right_calls (r : Int) (w : World) :
    Calls Tryd.prog 117 #[.int .i32 r] w fun e w' => e = .returned (.bool (U.right r)) ∧ w = w' := by
  go_enter Tryd.func117, Tryd.ntmps117
  go_wp2
  all_goals go_ret
  all_goals refine ⟨right_of _ ?_, rfl⟩
  all_goals simp
  all_goals omega
theorem right_true {r : Int} (h : U.right r = true) (w : World) :
    Calls Tryd.prog 117 #[.int .i32 r] w fun e w' => e = .returned (.bool true) ∧ w = w' := h ▸ right_calls r w
theorem right_false {r : Int} (h : U.right r = false) (w : World) :
    Calls Tryd.prog 117 #[.int .i32 r] w fun e w' => e = .returned (.bool false) ∧ w = w' := h ▸ right_calls r w
theorem size_at {c : UInt8} {n x : Int} (h : szc c.toNat = (n, x)) (w : World) :
    Calls Tryd.prog 116 #[.int .u8 c.toNat] w fun e w' => e = .returned (.tuple #[.int .i64 n, .int .i32 x]) ∧ w = w' := by
  have := size_calls c w
  rw [h] at this
  exact this
/-- What next tells. -/
def NextV (s : U.Bs) : Value := .tuple #[.int .i32 (U.next s).1, .int .i64 (U.next s).2]
theorem nextV_of {s : U.Bs} {r : Int} {n : Nat} (h : U.next s = (r, n)) : Ending.returned (.tuple #[.int .i32 r, .int .i64 n]) = .returned (NextV s) := by
  unfold NextV; rw [h]
section
attribute [local go_sem] idx0 idx1 idx2 idx3 or2 or3a or3 or4a or4b or4
attribute [local irreducible] U.r3 U.r4
set_option maxHeartbeats 1000000 in
theorem next_nil (w : World) : Calls Tryd.prog 71 #[.string ⟨#[]⟩] w fun e w' => e = .returned (NextV []) ∧ w = w' := by
  go_enter Tryd.func71, Tryd.ntmps71
  go_wp2_with fail
  go_ret2
  exact ⟨rfl, rfl⟩
set_option maxHeartbeats 1000000 in
theorem next_1 (a : UInt8) (t : U.Bs) (w : World) (_hl : t.length ≤ 140737488351232) (h1 : a.toNat < 128) :
    Calls Tryd.prog 71 #[.string ⟨(a :: t).toArray⟩] w fun e w' => e = .returned (NextV (a :: t)) ∧ w = w' := by
  have hn : U.next (a :: t) = ((a.toNat : Int), 1) := by simp only [U.next]; rw [if_pos h1]
  have hr : U.right (a.toNat : Int) = true := U.right_iff.2 (by omega)
  have hs : szc a.toNat = (1, (a.toNat : Int)) := by unfold szc; rw [if_pos h1]
  have HN := Hd.mk hn
  have HS := Hd.mk hs
  have HR := Hd.mk hr
  clear hn hs hr
  go_enter Tryd.func71, Tryd.ntmps71
  go_wp2_with (go_at_call 116; refine (size_at HS.out _).mono ?_; rintro e w' ⟨rfl, rfl⟩)
  refine wp_loop_rounds 1 ?_
  rw [rounds_succ]
  go_wp2_with (go_at_call 117; refine (right_true HR.out _).mono ?_; rintro e w' ⟨rfl, rfl⟩)
  go_ret2
  exact ⟨nextV_of HN.out, rfl⟩

set_option maxHeartbeats 1000000 in
/-- Where there is no rune at the beginning. -/
theorem next_bad1 (a : UInt8) (t : U.Bs) (w : World) (_hl : t.length ≤ 140737488351232) (h1 : 128 ≤ a.toNat) (h2 : a.toNat < 194 ∨ 245 ≤ a.toNat) :
    Calls Tryd.prog 71 #[.string ⟨(a :: t).toArray⟩] w fun e w' => e = .returned (NextV (a :: t)) ∧ w = w' := by
  have hn : U.next (a :: t) = (0, 0) := by
    simp only [U.next]; rw [if_neg (by omega)]
    rcases h2 with h2 | h2
    · rw [if_pos h2]
    · rw [if_neg (by omega), if_neg (by omega), if_neg (by omega), if_neg (by omega)]
  have hs : szc a.toNat = (0, 0) := by
    unfold szc; rw [if_neg (by omega)]
    rcases h2 with h2 | h2
    · rw [if_pos h2]
    · rw [if_neg (by omega), if_neg (by omega), if_neg (by omega), if_neg (by omega)]
  have HN := Hd.mk hn
  have HS := Hd.mk hs
  clear hn hs h2
  go_enter Tryd.func71, Tryd.ntmps71
  go_wp2_with (go_at_call 116; refine (size_at HS.out _).mono ?_; rintro e w' ⟨rfl, rfl⟩)
  go_ret2
  exact ⟨nextV_of HN.out, rfl⟩
set_option maxHeartbeats 1000000 in
theorem next_short (a : UInt8) (t : U.Bs) (n : Nat) (x : Int) (w : World) (hs : szc a.toNat = ((n : Int), x)) (h0 : 0 < n) (hl : t.length + 1 < n) (h4 : n ≤ 4) (hn : U.next (a :: t) = (0, 0)) :
    Calls Tryd.prog 71 #[.string ⟨(a :: t).toArray⟩] w fun e w' => e = .returned (NextV (a :: t)) ∧ w = w' := by
  have HN := Hd.mk hn
  have HS := Hd.mk hs
  clear hn hs
  go_enter Tryd.func71, Tryd.ntmps71
  go_wp2_with (go_at_call 116; refine (size_at HS.out _).mono ?_; rintro e w' ⟨rfl, rfl⟩)
  go_ret2
  exact ⟨nextV_of HN.out, rfl⟩
set_option maxHeartbeats 1000000 in
theorem next_2 (a b : UInt8) (t : U.Bs) (w : World) (hl : t.length ≤ 140737488351232) (h1 : 194 ≤ a.toNat) (h2 : a.toNat < 224) :
    Calls Tryd.prog 71 #[.string ⟨(a :: b :: t).toArray⟩] w fun e w' => e = .returned (NextV (a :: b :: t)) ∧ w = w' := by
  have hs : szc a.toNat = (2, (a.toNat : Int) % 32) := by unfold szc; rw [if_neg (by omega), if_neg (by omega), if_pos (by omega)]
  have HS := Hd.mk hs
  have hb := b.toNat_lt
  have e : U.next (a :: b :: t) = if U.cont b = true then (U.r2 a b, 2) else (0, 0) := by
    simp only [U.next]; rw [if_neg (by omega), if_neg (by omega), if_pos (by omega)]
  clear hs
  by_cases hc : U.cont b = true
  · rw [if_pos hc] at e
    have hcb := contT hc
    have hr : U.right (U.r2 a b) = true := U.right_iff.2 (by unfold U.r2; omega)
    have HN := Hd.mk e
    have HR := Hd.mk hr
    clear e hc hr
    go_enter Tryd.func71, Tryd.ntmps71
    go_wp2_with (go_at_call 116; refine (size_at HS.out _).mono ?_; rintro e w' ⟨rfl, rfl⟩)
    refine wp_loop_rounds 2 ?_
    rw [rounds_succ]
    go_wp2_with fail
    rw [rounds_succ]
    go_wp2_with (go_at_call 117; refine (right_true HR.out _).mono ?_; rintro e w' ⟨rfl, rfl⟩)
    go_ret2
    exact ⟨nextV_of HN.out, rfl⟩
  · rw [if_neg hc] at e
    have hcb := contF hc
    have HN := Hd.mk e
    clear e hc
    go_enter Tryd.func71, Tryd.ntmps71
    go_wp2_with (go_at_call 116; refine (size_at HS.out _).mono ?_; rintro e w' ⟨rfl, rfl⟩)
    refine wp_loop_rounds 1 ?_
    rw [rounds_succ]
    go_wp2_with fail
    go_ret2
    exact ⟨nextV_of HN.out, rfl⟩
set_option maxHeartbeats 2000000 in
theorem next_3 (a b c : UInt8) (t : U.Bs) (w : World) (hl : t.length ≤ 140737488351232) (h1 : 224 ≤ a.toNat) (h2 : a.toNat < 240) :
    Calls Tryd.prog 71 #[.string ⟨(a :: b :: c :: t).toArray⟩] w fun e w' => e = .returned (NextV (a :: b :: c :: t)) ∧ w = w' := by
  have hs : szc a.toNat = (3, (a.toNat : Int) % 16) := by unfold szc; rw [if_neg (by omega), if_neg (by omega), if_neg (by omega), if_pos (by omega)]
  have HS := Hd.mk hs
  have hb := b.toNat_lt
  have hc := c.toNat_lt
  have e : U.next (a :: b :: c :: t) = if U.cont b = true ∧ U.cont c = true ∧ U.right (U.r3 a b c) = true ∧ 2048 ≤ U.r3 a b c then (U.r3 a b c, 3) else (0, 0) := by
    simp only [U.next]; rw [if_neg (by omega), if_neg (by omega), if_neg (by omega), if_pos (by omega)]
  clear hs
  by_cases kb : U.cont b = true
  case neg =>
    rw [if_neg (fun h => kb h.1)] at e
    have hcb := contF kb
    have HN := Hd.mk e
    clear e kb
    go_enter Tryd.func71, Tryd.ntmps71
    go_wp2_with (go_at_call 116; refine (size_at HS.out _).mono ?_; rintro e w' ⟨rfl, rfl⟩)
    refine wp_loop_rounds 1 ?_
    rw [rounds_succ]
    go_wp2_with fail
    go_ret2
    exact ⟨nextV_of HN.out, rfl⟩
  by_cases kc : U.cont c = true
  case neg =>
    rw [if_neg (fun h => kc h.2.1)] at e
    have hcb := contT kb
    have hcc := contF kc
    have HN := Hd.mk e
    clear e kb kc
    go_enter Tryd.func71, Tryd.ntmps71
    go_wp2_with (go_at_call 116; refine (size_at HS.out _).mono ?_; rintro e w' ⟨rfl, rfl⟩)
    refine wp_loop_rounds 2 ?_
    rw [rounds_succ]
    go_wp2_with fail
    rw [rounds_succ]
    go_wp2_with fail
    go_ret2
    exact ⟨nextV_of HN.out, rfl⟩
  have hcb := contT kb
  have hcc := contT kc
  by_cases kr : U.right (U.r3 a b c) = true
  case neg =>
    rw [if_neg (fun h => kr h.2.2.1)] at e
    have HN := Hd.mk e
    have HR := Hd.mk (Bool.eq_false_iff.2 kr)
    clear e kb kc kr
    go_enter Tryd.func71, Tryd.ntmps71
    go_wp2_with (go_at_call 116; refine (size_at HS.out _).mono ?_; rintro e w' ⟨rfl, rfl⟩)
    refine wp_loop_rounds 3 ?_
    rw [rounds_succ]
    go_wp2_with fail
    rw [rounds_succ]
    go_wp2_with fail
    rw [rounds_succ]
    go_wp2_with (go_at_call 117; refine (right_false HR.out _).mono ?_; rintro e w' ⟨rfl, rfl⟩)
    go_ret2
    exact ⟨nextV_of HN.out, rfl⟩
  by_cases ku : 2048 ≤ U.r3 a b c
  case neg =>
    rw [if_neg (fun h => ku h.2.2.2)] at e
    have HN := Hd.mk e
    have HR := Hd.mk kr
    have hlo : U.r3 a b c < 2048 := by omega
    clear e kb kc kr ku
    go_enter Tryd.func71, Tryd.ntmps71
    go_wp2_with (go_at_call 116; refine (size_at HS.out _).mono ?_; rintro e w' ⟨rfl, rfl⟩)
    refine wp_loop_rounds 3 ?_
    rw [rounds_succ]
    go_wp2_with fail
    rw [rounds_succ]
    go_wp2_with fail
    rw [rounds_succ]
    go_wp2_with (go_at_call 117; refine (right_true HR.out _).mono ?_; rintro e w' ⟨rfl, rfl⟩)
    go_ret2
    exact ⟨nextV_of HN.out, rfl⟩
  case pos =>
    rw [if_pos ⟨kb, kc, kr, ku⟩] at e
    have HN := Hd.mk e
    have HR := Hd.mk kr
    clear e kb kc kr
    go_enter Tryd.func71, Tryd.ntmps71
    go_wp2_with (go_at_call 116; refine (size_at HS.out _).mono ?_; rintro e w' ⟨rfl, rfl⟩)
    refine wp_loop_rounds 3 ?_
    rw [rounds_succ]
    go_wp2_with fail
    rw [rounds_succ]
    go_wp2_with fail
    rw [rounds_succ]
    go_wp2_with (go_at_call 117; refine (right_true HR.out _).mono ?_; rintro e w' ⟨rfl, rfl⟩)
    go_ret2
    exact ⟨nextV_of HN.out, rfl⟩

set_option maxHeartbeats 4000000 in
theorem next_4 (a b c d : UInt8) (t : U.Bs) (w : World) (hl : t.length ≤ 140737488351232) (h1 : 240 ≤ a.toNat) (h2 : a.toNat < 245) :
    Calls Tryd.prog 71 #[.string ⟨(a :: b :: c :: d :: t).toArray⟩] w fun e w' => e = .returned (NextV (a :: b :: c :: d :: t)) ∧ w = w' := by
  have hs : szc a.toNat = (4, (a.toNat : Int) % 8) := by unfold szc; rw [if_neg (by omega), if_neg (by omega), if_neg (by omega), if_neg (by omega), if_pos (by omega)]
  have HS := Hd.mk hs
  have hb := b.toNat_lt
  have hc := c.toNat_lt
  have hd := d.toNat_lt
  have e : U.next (a :: b :: c :: d :: t) = if U.cont b = true ∧ U.cont c = true ∧ U.cont d = true ∧ U.right (U.r4 a b c d) = true ∧ 65536 ≤ U.r4 a b c d then (U.r4 a b c d, 4) else (0, 0) := by
    simp only [U.next]; rw [if_neg (by omega), if_neg (by omega), if_neg (by omega), if_neg (by omega), if_pos (by omega)]
  clear hs
  by_cases kb : U.cont b = true
  case neg =>
    rw [if_neg (fun h => kb h.1)] at e
    have hcb := contF kb
    have HN := Hd.mk e
    clear e kb
    go_enter Tryd.func71, Tryd.ntmps71
    go_wp2_with (go_at_call 116; refine (size_at HS.out _).mono ?_; rintro e w' ⟨rfl, rfl⟩)
    refine wp_loop_rounds 1 ?_
    rw [rounds_succ]
    go_wp2_with fail
    go_ret2
    exact ⟨nextV_of HN.out, rfl⟩
  by_cases kc : U.cont c = true
  case neg =>
    rw [if_neg (fun h => kc h.2.1)] at e
    have hcb := contT kb
    have hcc := contF kc
    have HN := Hd.mk e
    clear e kb kc
    go_enter Tryd.func71, Tryd.ntmps71
    go_wp2_with (go_at_call 116; refine (size_at HS.out _).mono ?_; rintro e w' ⟨rfl, rfl⟩)
    refine wp_loop_rounds 2 ?_
    rw [rounds_succ]
    go_wp2_with fail
    rw [rounds_succ]
    go_wp2_with fail
    go_ret2
    exact ⟨nextV_of HN.out, rfl⟩
  by_cases kd : U.cont d = true
  case neg =>
    rw [if_neg (fun h => kd h.2.2.1)] at e
    have hcb := contT kb
    have hcc := contT kc
    have hcd := contF kd
    have HN := Hd.mk e
    clear e kb kc kd
    go_enter Tryd.func71, Tryd.ntmps71
    go_wp2_with (go_at_call 116; refine (size_at HS.out _).mono ?_; rintro e w' ⟨rfl, rfl⟩)
    refine wp_loop_rounds 3 ?_
    rw [rounds_succ]
    go_wp2_with fail
    rw [rounds_succ]
    go_wp2_with fail
    rw [rounds_succ]
    go_wp2_with fail
    go_ret2
    exact ⟨nextV_of HN.out, rfl⟩
  have hcb := contT kb
  have hcc := contT kc
  have hcd := contT kd
  by_cases kr : U.right (U.r4 a b c d) = true
  case neg =>
    rw [if_neg (fun h => kr h.2.2.2.1)] at e
    have HN := Hd.mk e
    have HR := Hd.mk (Bool.eq_false_iff.2 kr)
    clear e kb kc kd kr
    go_enter Tryd.func71, Tryd.ntmps71
    go_wp2_with (go_at_call 116; refine (size_at HS.out _).mono ?_; rintro e w' ⟨rfl, rfl⟩)
    refine wp_loop_rounds 4 ?_
    rw [rounds_succ]
    go_wp2_with fail
    rw [rounds_succ]
    go_wp2_with fail
    rw [rounds_succ]
    go_wp2_with fail
    rw [rounds_succ]
    go_wp2_with (go_at_call 117; refine (right_false HR.out _).mono ?_; rintro e w' ⟨rfl, rfl⟩)
    go_ret2
    exact ⟨nextV_of HN.out, rfl⟩
  by_cases ku : 65536 ≤ U.r4 a b c d
  case neg =>
    rw [if_neg (fun h => ku h.2.2.2.2)] at e
    have HN := Hd.mk e
    have HR := Hd.mk kr
    have hlo : U.r4 a b c d < 65536 := by omega
    clear e kb kc kd kr ku
    go_enter Tryd.func71, Tryd.ntmps71
    go_wp2_with (go_at_call 116; refine (size_at HS.out _).mono ?_; rintro e w' ⟨rfl, rfl⟩)
    refine wp_loop_rounds 4 ?_
    rw [rounds_succ]
    go_wp2_with fail
    rw [rounds_succ]
    go_wp2_with fail
    rw [rounds_succ]
    go_wp2_with fail
    rw [rounds_succ]
    go_wp2_with (go_at_call 117; refine (right_true HR.out _).mono ?_; rintro e w' ⟨rfl, rfl⟩)
    go_ret2
    exact ⟨nextV_of HN.out, rfl⟩
  case pos =>
    rw [if_pos ⟨kb, kc, kd, kr, ku⟩] at e
    have HN := Hd.mk e
    have HR := Hd.mk kr
    clear e kb kc kd kr
    go_enter Tryd.func71, Tryd.ntmps71
    go_wp2_with (go_at_call 116; refine (size_at HS.out _).mono ?_; rintro e w' ⟨rfl, rfl⟩)
    refine wp_loop_rounds 4 ?_
    rw [rounds_succ]
    go_wp2_with fail
    rw [rounds_succ]
    go_wp2_with fail
    rw [rounds_succ]
    go_wp2_with fail
    rw [rounds_succ]
    go_wp2_with (go_at_call 117; refine (right_true HR.out _).mono ?_; rintro e w' ⟨rfl, rfl⟩)
    go_ret2
    exact ⟨nextV_of HN.out, rfl⟩
end
theorem next_calls (s : U.Bs) (w : World) (hl : s.length ≤ 140737488351232) :
    Calls Tryd.prog 71 #[.string ⟨s.toArray⟩] w fun e w' => e = .returned (NextV s) ∧ w = w' := by
  match s, hl with
  | [], _ => exact next_nil w
  | a :: t, hl =>
    have hl' : t.length ≤ 140737488351232 := by simp only [List.length_cons] at hl; omega
    by_cases h1 : a.toNat < 128
    · exact next_1 a t w hl' h1
    by_cases h2 : a.toNat < 194
    · exact next_bad1 a t w hl' (by omega) (.inl h2)
    by_cases h3 : a.toNat < 224
    · match t, hl' with
      | [], _ =>
        refine next_short a [] 2 ((a.toNat : Int) % 32) w ?_ (by omega) (by simp) (by omega) ?_
        · unfold szc; rw [if_neg (by omega), if_neg (by omega), if_pos (by omega)]; rfl
        · simp only [U.next]; rw [if_neg (by omega), if_neg (by omega), if_pos (by omega)]
      | b :: t, hl' => exact next_2 a b t w (by simp only [List.length_cons] at hl'; omega) (by omega) h3
    by_cases h4 : a.toNat < 240
    · have sh : ∀ t : U.Bs, t.length + 1 < 3 → Calls Tryd.prog 71 #[.string ⟨(a :: t).toArray⟩] w fun e w' => e = .returned (NextV (a :: t)) ∧ w = w' := fun t ht => by
        refine next_short a t 3 ((a.toNat : Int) % 16) w ?_ (by omega) ht (by omega) ?_
        · unfold szc; rw [if_neg (by omega), if_neg (by omega), if_neg (by omega), if_pos (by omega)]; rfl
        · simp only [U.next]; rw [if_neg (by omega), if_neg (by omega), if_neg (by omega), if_pos (by omega)]
          match t, ht with
          | [], _ => rfl
          | [_], _ => rfl
      match t, hl' with
      | [], _ => exact sh [] (by simp)
      | [b], _ => exact sh [b] (by simp)
      | b :: c :: t, hl' => exact next_3 a b c t w (by simp only [List.length_cons] at hl'; omega) (by omega) h4
    by_cases h5 : a.toNat < 245
    · have sh : ∀ t : U.Bs, t.length + 1 < 4 → Calls Tryd.prog 71 #[.string ⟨(a :: t).toArray⟩] w fun e w' => e = .returned (NextV (a :: t)) ∧ w = w' := fun t ht => by
        refine next_short a t 4 ((a.toNat : Int) % 8) w ?_ (by omega) ht (by omega) ?_
        · unfold szc; rw [if_neg (by omega), if_neg (by omega), if_neg (by omega), if_neg (by omega), if_pos (by omega)]; rfl
        · simp only [U.next]; rw [if_neg (by omega), if_neg (by omega), if_neg (by omega), if_neg (by omega), if_pos (by omega)]
          match t, ht with
          | [], _ => rfl
          | [_], _ => rfl
          | [_, _], _ => rfl
      match t, hl' with
      | [], _ => exact sh [] (by simp)
      | [b], _ => exact sh [b] (by simp)
      | [b, c], _ => exact sh [b, c] (by simp)
      | b :: c :: d :: t, hl' => exact next_4 a b c d t w (by simp only [List.length_cons] at hl'; omega) (by omega) h5
    · exact next_bad1 a t w hl' (by omega) (.inr (by omega))
end Go.Proofs.YtgokmldngnmmhaaDoor
/- Walks of package utf's counts: one, Plus, In; and of the reference's In. -/
namespace Go.Proofs.YtgokmldngnmmhaaDoor
open Go.RowKit
set_option maxRecDepth 100000
/-- Counts, as plain numbers. -/
structure Cn where
  b : Int
  h : Int
  r : Int
  l : Int
def Cn.add (x y : Cn) : Cn := ⟨x.b + y.b, x.h + y.h, x.r + y.r, x.l + y.l⟩
def Cn.zero : Cn := ⟨0, 0, 0, 0⟩
/-- Counts as a value. -/
abbrev Cn.v (x : Cn) : Value := .agg #[.int .i64 x.b, .int .i64 x.h, .int .i64 x.r, .int .i64 x.l]
theorem Cn.v_eq (x : Cn) : x.v = .agg #[.int .i64 x.b, .int .i64 x.h, .int .i64 x.r, .int .i64 x.l] := rfl
/-- All four from 0 to below so many. -/
structure Cn.In (x : Cn) (n : Int) : Prop where
  b0 : 0 ≤ x.b
  b1 : x.b ≤ n
  h0 : 0 ≤ x.h
  h1 : x.h ≤ n
  r0 : 0 ≤ x.r
  r1 : x.r ≤ n
  l0 : 0 ≤ x.l
  l1 : x.l ≤ n
set_option maxHeartbeats 400000 in
theorem plus_wrap (a0 a1 a2 a3 b0 b1 b2 b3 : Int) (w : World) :
    Calls Tryd.prog 25 #[.agg #[.int .i64 a0, .int .i64 a1, .int .i64 a2, .int .i64 a3], .agg #[.int .i64 b0, .int .i64 b1, .int .i64 b2, .int .i64 b3]] w
      fun e w' => e = .returned (.agg #[.int .i64 (wrap64 (a0 + b0)), .int .i64 (wrap64 (a1 + b1)), .int .i64 (wrap64 (a2 + b2)), .int .i64 (wrap64 (a3 + b3))]) ∧ Below w.heap.size w w' := by
  go_enter Tryd.func25, Tryd.ntmps25
  go_wp2
  refine bodyPost_ret (v := .agg #[.int .i64 (wrap64 (a0 + b0)), .int .i64 (wrap64 (a1 + b1)), .int .i64 (wrap64 (a2 + b2)), .int .i64 (wrap64 (a3 + b3))]) (by simp [results, Tryd.results25, go_sem]) rfl ?_
  exact ⟨rfl, (((Below.refl _ _).alloc (Nat.le_refl _) _).alloc (by simp) _).alloc (by simp; omega) _⟩
theorem plus_calls (x y : Cn) (w : World) (hx : x.In 2305843009213693952) (hy : y.In 2305843009213693952) :
    Calls Tryd.prog 25 #[x.v, y.v] w fun e w' => e = .returned (x.add y).v ∧ Below w.heap.size w w' := by
  refine (plus_wrap x.b x.h x.r x.l y.b y.h y.r y.l w).mono ?_
  rintro e w' ⟨rfl, h⟩
  refine ⟨?_, h⟩
  obtain ⟨h1, h2, h3, h4, h5, h6, h7, h8⟩ := hx
  obtain ⟨g1, g2, g3, g4, g5, g6, g7, g8⟩ := hy
  unfold Cn.v Cn.add
  rw [IntWalk.wrap64_in _ ⟨by omega, by omega⟩, IntWalk.wrap64_in _ ⟨by omega, by omega⟩, IntWalk.wrap64_in _ ⟨by omega, by omega⟩, IntWalk.wrap64_in _ ⟨by omega, by omega⟩]
/-- In. -/
def Cn.of (x : Cn) (u : Int) : Int := if u = 1 then x.b else if u = 2 then x.h else if u = 3 then x.r else 0
set_option maxHeartbeats 400000 in
theorem in_calls (x : Cn) (u : Int) (w : World) :
    Calls Tryd.prog 60 #[x.v, .int .i64 u] w fun e w' => e = .returned (.int .i64 (x.of u)) ∧ Below w.heap.size w w' := by
  rw [Cn.v_eq]
  go_enter Tryd.func60, Tryd.ntmps60
  go_wp2
  all_goals go_ret
  all_goals refine ⟨?_, (Below.refl _ _).alloc (Nat.le_refl _) _⟩
  all_goals unfold Cn.of
  · have h : u = 1 := by simpa using ‹(u == 1) = true›
    rw [if_pos h]; rfl
  · have h : u = 2 := by simpa using ‹(u == 2) = true›
    rw [if_neg (by omega), if_pos h]; rfl
  · have h : u = 3 := by simpa using ‹(u == 3) = true›
    rw [if_neg (by omega), if_neg (by omega), if_pos h]; rfl
  · have h1 : ¬ u = 1 := by simpa using ‹(u == 1) = false›
    have h2 : ¬ u = 2 := by simpa using ‹(u == 2) = false›
    have h3 : ¬ u = 3 := by simpa using ‹(u == 3) = false›
    rw [if_neg h1, if_neg h2, if_neg h3]; rfl
/-- A rune's counts. -/
def oneC (r : Int) (n : Int) : Cn := ⟨n, if 65536 ≤ r then 2 else 1, 1, if r = 10 then 1 else 0⟩
set_option maxHeartbeats 400000 in
theorem one_calls (r n : Int) (w : World) :
    Calls Tryd.prog 72 #[.int .i32 r, .int .i64 n] w fun e w' => e = .returned (oneC r n).v ∧ Below w.heap.size w w' := by
  by_cases h1 : 65536 ≤ r
  · have h2 : (r == 10) = false := by rw [beq_eq_false_iff_ne]; omega
    have e : (oneC r n).v = .agg #[.int .i64 n, .int .i64 2, .int .i64 1, .int .i64 0] := by
      unfold oneC Cn.v; dsimp only; rw [if_pos h1, if_neg (by omega)]
    rw [e]; clear e
    go_enter Tryd.func72, Tryd.ntmps72
    go_wp2
    refine bodyPost_ret (v := .agg #[.int .i64 n, .int .i64 2, .int .i64 1, .int .i64 0]) (by simp [results, Tryd.results72, go_sem]) rfl ?_
    exact ⟨rfl, ((Below.refl _ _).alloc (Nat.le_refl _) _).alloc (by simp) _⟩
  · by_cases h2 : r = 10
    · subst h2
      have e : (oneC 10 n).v = .agg #[.int .i64 n, .int .i64 1, .int .i64 1, .int .i64 1] := by
        unfold oneC Cn.v; dsimp only; rw [if_neg (by omega), if_pos (by omega)]
      rw [e]; clear e
      go_enter Tryd.func72, Tryd.ntmps72
      go_wp2
      refine bodyPost_ret (v := .agg #[.int .i64 n, .int .i64 1, .int .i64 1, .int .i64 1]) (by simp [results, Tryd.results72, go_sem]) rfl ?_
      exact ⟨rfl, ((Below.refl _ _).alloc (Nat.le_refl _) _).alloc (by simp) _⟩
    · have h3 : (r == 10) = false := by rw [beq_eq_false_iff_ne]; omega
      have e : (oneC r n).v = .agg #[.int .i64 n, .int .i64 1, .int .i64 1, .int .i64 0] := by
        unfold oneC Cn.v; dsimp only; rw [if_neg h1, if_neg h2]
      rw [e]; clear e
      go_enter Tryd.func72, Tryd.ntmps72
      go_wp2
      refine bodyPost_ret (v := .agg #[.int .i64 n, .int .i64 1, .int .i64 1, .int .i64 0]) (by simp [results, Tryd.results72, go_sem]) rfl ?_
      exact ⟨rfl, ((Below.refl _ _).alloc (Nat.le_refl _) _).alloc (by simp) _⟩
end Go.Proofs.YtgokmldngnmmhaaDoor
/- Plain facts about a text gone through rune by rune: what it begins with, where that ends. -/
namespace Go.Proofs.YtgokmldngnmmhaaDoor
namespace U
def encs (rs : List Int) : Bs := rs.flatMap enc
theorem encs_nil : encs [] = [] := rfl
theorem encs_cons (r : Int) (rs : List Int) : encs (r :: rs) = enc r ++ encs rs := by simp [encs]
theorem encs_append (a b : List Int) : encs (a ++ b) = encs a ++ encs b := by simp [encs]
def AllR (rs : List Int) : Prop := ∀ r ∈ rs, right r = true
/-- s is the bytes of rs, and behind them a rest at whose beginning no rune is. -/
structure Sp (s : Bs) (rs : List Int) (rest : Bs) : Prop where
  all : AllR rs
  eq : s = encs rs ++ rest
  bad : (next rest).2 = 0
theorem next_cases (s : Bs) : next s = (0, 0) ∨ (next s).2 ≠ 0 := by
  unfold next
  repeat' split
  all_goals first | exact .inl rfl | (right; simp; done)
theorem next_zero {s : Bs} (h : (next s).2 = 0) : next s = (0, 0) := (next_cases s).resolve_right (fun g => g h)
theorem next_le (s : Bs) : (next s).2 ≤ s.length := by
  by_cases h : (next s).2 = 0
  · omega
  · obtain ⟨_, h2, h3⟩ := next_pos s h
    have := congrArg List.length h3
    rw [List.length_append, enc_length, List.length_drop] at this
    omega
theorem sp_exists (s : Bs) : ∃ rs rest, Sp s rs rest := by
  generalize hn : s.length = n
  induction n using Nat.strongRecOn generalizing s with
  | _ n ih =>
    by_cases h : (next s).2 = 0
    · exact ⟨[], s, fun r hr => by simp at hr, rfl, h⟩
    · obtain ⟨h1, h2, h3⟩ := next_pos s h
      have hl := next_le s
      obtain ⟨rs, rest, g1, g2, g3⟩ := ih (s.drop (next s).2).length (by rw [List.length_drop]; omega) (s.drop (next s).2) rfl
      refine ⟨(next s).1 :: rs, rest, ?_, ?_, g3⟩
      · intro r hr
        rcases List.mem_cons.1 hr with rfl | hr
        · exact h1
        · exact g1 r hr
      · rw [encs_cons, List.append_assoc, ← g2]; exact h3
def off (rs : List Int) (k : Nat) : Nat := (encs (rs.take k)).length
theorem off_zero (rs : List Int) : off rs 0 = 0 := rfl
theorem off_succ {rs : List Int} {k : Nat} (h : k < rs.length) : off rs (k + 1) = off rs k + wid rs[k] := by
  unfold off
  rw [List.take_succ_eq_append_getElem h, encs_append, List.length_append, encs_cons, encs_nil, List.append_nil, enc_length]
theorem encs_drop_off (rs : List Int) (k : Nat) (rest : Bs) : (encs rs ++ rest).drop (off rs k) = encs (rs.drop k) ++ rest := by
  have : encs rs ++ rest = encs (rs.take k) ++ (encs (rs.drop k) ++ rest) := by rw [← List.append_assoc, ← encs_append, List.take_append_drop]
  rw [this]; unfold off; rw [List.drop_left]
variable {s : Bs} {rs : List Int} {rest : Bs}
theorem Sp.drop (h : Sp s rs rest) (k : Nat) : s.drop (off rs k) = encs (rs.drop k) ++ rest := by rw [h.eq, encs_drop_off]
theorem Sp.next_at (h : Sp s rs rest) {k : Nat} (hk : k < rs.length) : next (s.drop (off rs k)) = (rs[k], wid rs[k]) := by
  rw [h.drop, List.drop_eq_getElem_cons hk, encs_cons, List.append_assoc]
  exact next_enc (h.all _ (List.getElem_mem hk)) _
theorem Sp.next_end (h : Sp s rs rest) : next (s.drop (off rs rs.length)) = (0, 0) := by
  rw [h.drop, List.drop_length, encs_nil, List.nil_append]
  exact next_zero h.bad
theorem off_full (rs : List Int) : off rs rs.length = (encs rs).length := by unfold off; rw [List.take_length]
theorem Sp.length (h : Sp s rs rest) : s.length = off rs rs.length + rest.length := by rw [h.eq, List.length_append, off_full]
theorem off_lt {k : Nat} (h : k < rs.length) : off rs k < off rs rs.length := by
  have e : off rs rs.length = off rs k + (encs (rs.drop k)).length := by
    rw [off_full, off, ← List.length_append, ← encs_append, List.take_append_drop]
  rw [e, List.drop_eq_getElem_cons h, encs_cons, List.length_append, enc_length]
  have := wid_pos rs[k]
  omega
theorem off_le {k : Nat} (h : k ≤ rs.length) : off rs k ≤ off rs rs.length := by
  rcases Nat.lt_or_ge k rs.length with h1 | h1
  · exact Nat.le_of_lt (off_lt h1)
  · rw [show k = rs.length from Nat.le_antisymm h h1]; exact Nat.le_refl _
theorem len_le_off (rs : List Int) : rs.length ≤ off rs rs.length := by
  induction rs with
  | nil => simp
  | cons r rs ih =>
    rw [off_full] at ih ⊢
    rw [encs_cons, List.length_append, enc_length, List.length_cons]
    have := wid_pos r
    omega
theorem Sp.unique {rs' : List Int} {rest' : Bs} (h : Sp s rs rest) (h' : Sp s rs' rest') : rs = rs' ∧ rest = rest' := by
  induction rs generalizing s rs' with
  | nil =>
    cases rs' with
    | nil => exact ⟨rfl, by have := h.eq.symm.trans h'.eq; simpa [encs] using this⟩
    | cons r rs' =>
      have h1 := h.next_end
      have h2 := h'.next_at (k := 0) (by simp)
      rw [off_zero, List.drop_zero] at h2
      simp [off_zero] at h1
      rw [h1] at h2
      have := wid_pos r
      simp at h2; omega
  | cons r rs ih =>
    have h1 := h.next_at (k := 0) (by simp)
    rw [off_zero, List.drop_zero] at h1
    cases rs' with
    | nil =>
      have h2 := h'.next_end
      simp [off_zero] at h2
      rw [h2] at h1
      have := wid_pos r
      simp at h1; omega
    | cons r' rs' =>
      have h2 := h'.next_at (k := 0) (by simp)
      rw [off_zero, List.drop_zero, h1] at h2
      simp only [List.getElem_cons_zero, Prod.mk.injEq] at h2
      obtain ⟨rfl, _⟩ := h2
      have e := h.eq.symm.trans h'.eq
      rw [encs_cons, encs_cons, List.append_assoc, List.append_assoc] at e
      have e2 := List.append_cancel_left e
      obtain ⟨g1, g2⟩ := ih (s := encs rs ++ rest) ⟨fun x hx => h.all x (List.mem_cons_of_mem _ hx), rfl, h.bad⟩ ⟨fun x hx => h'.all x (List.mem_cons_of_mem _ hx), e2, h'.bad⟩
      exact ⟨by rw [g1], g2⟩
theorem sp_encs {rs : List Int} (h : AllR rs) : Sp (encs rs) rs [] := ⟨h, by simp, rfl⟩
end U
end Go.Proofs.YtgokmldngnmmhaaDoor
/- Laws on slices, over any program: what a slice reads as; an append onto a row of the call's own. -/
namespace Go.Proofs.YtgokmldngnmmhaaDoor
open Go.RowKit
theorem block_of_add (a : Addr) (n : Nat) : (a.add n).block = a.block := by unfold Addr.add; split <;> rfl
theorem add_of_add (a : Addr) (i j : Nat) : (a.add i).add j = a.add (i + j) := by
  unfold Addr.add
  by_cases hi : i = 0 <;> by_cases hj : j = 0 <;> simp [hi, hj, Nat.add_assoc]
theorem addr_succ (a : Addr) (k : Nat) : a.add (k + 1) = ⟨a.block, a.off + (k + 1), none⟩ := by simp [Addr.add]
/-- The slice value v has n elements of so many cells each, which read xs; nil is let in. -/
def Sl (w : World) (size : Nat) (v : Value) (n : Nat) (xs : List Value) : Prop :=
  ∃ A c, v = .slice A n c ∧ xs.length = n * size ∧ n ≤ c ∧ c ≤ maxLen ∧ (A = none → c = 0) ∧ (0 < n → ∃ ad, A = some ad ∧ ad.block < w.heap.size ∧ ∀ j u, xs[j]? = some u → w.cell? (ad.add j) = some u)
section
variable {w w' : World} {size n : Nat} {v : Value} {xs : List Value}
theorem Sl.len (h : Sl w size v n xs) : xs.length = n * size := by obtain ⟨_, _, _, h, _⟩ := h; exact h
theorem Sl.le (h : Sl w size v n xs) : n ≤ maxLen := by obtain ⟨_, c, _, _, h1, h2, _, _⟩ := h; omega
theorem Sl.below (h : Sl w size v n xs) (hb : Below w.heap.size w w') : Sl w' size v n xs := by
  obtain ⟨A, c, h1, h2, h3, h4, h4', h5⟩ := h
  refine ⟨A, c, h1, h2, h3, h4, h4', fun hn => ?_⟩
  obtain ⟨ad, e, hb1, hc⟩ := h5 hn
  exact ⟨ad, e, Nat.lt_of_lt_of_le hb1 hb.size, fun j u hu => (hb.cell (p := ad.add j) (by rw [block_of_add]; exact hb1)).trans (hc j u hu)⟩
theorem Sl.nil (w : World) (size : Nat) : Sl w size (.slice none 0 0) 0 [] := ⟨none, 0, rfl, by simp, by omega, by unfold maxLen; omega, fun _ => rfl, fun h => absurd h (by omega)⟩
theorem Sl.of_own {base : Nat} {e : TypeId} (h : w.ownsRow base e size v n xs) : Sl w size v n xs := by
  rcases h.2 with ⟨rfl, rfl⟩ | ⟨g, cap, cur, rfl, hb, hg, hn, hc, _⟩
  · exact ⟨none, 0, rfl, h.1, by omega, by unfold maxLen; omega, fun _ => rfl, fun h => absurd h (by omega)⟩
  · refine ⟨some ⟨g, 0, none⟩, cap, rfl, h.1, hn, hc, (fun h => nomatch h), fun _ => ⟨⟨g, 0, none⟩, rfl, (Array.getElem?_eq_some_iff.1 hg).1, h.cells rfl⟩⟩
/-- Element k, of one cell. -/
theorem Sl.at_ (h : Sl w 1 v n xs) {k : Nat} (hk : k < n) : ∃ ad c u, v = .slice (some ad) n c ∧ ad.block < w.heap.size ∧ xs[k]? = some u ∧ w.cell? (ad.add k) = some u := by
  obtain ⟨A, c, rfl, h2, _, _, _, h5⟩ := h
  obtain ⟨ad, rfl, hb, hc⟩ := h5 (by omega)
  have hl : k < xs.length := by omega
  exact ⟨ad, c, xs[k], rfl, hb, List.getElem?_eq_getElem hl, hc k _ (List.getElem?_eq_getElem hl)⟩
end
theorem one1 {a : Value} (ha : a.oneCell' = true) : ∀ u ∈ (#[a] : Array Value).toList, u.oneCell' = true := by
  intro u hu
  simp at hu
  subst hu; exact ha
theorem one2 {a b : Value} (ha : a.oneCell' = true) (hb : b.oneCell' = true) : ∀ u ∈ (#[a, b] : Array Value).toList, u.oneCell' = true := by
  intro u hu
  simp at hu
  rcases hu with rfl | rfl
  · exact ha
  · exact hb
theorem one3 {a b c : Value} (ha : a.oneCell' = true) (hb : b.oneCell' = true) (hc : c.oneCell' = true) : ∀ u ∈ (#[a, b, c] : Array Value).toList, u.oneCell' = true := by
  intro u hu
  simp at hu
  rcases hu with rfl | rfl | rfl
  · exact ha
  · exact hb
  · exact hc
theorem one4 {a b c d : Value} (ha : a.oneCell' = true) (hb : b.oneCell' = true) (hc : c.oneCell' = true) (hd : d.oneCell' = true) : ∀ u ∈ (#[a, b, c, d] : Array Value).toList, u.oneCell' = true := by
  intro u hu
  simp at hu
  rcases hu with rfl | rfl | rfl | rfl
  · exact ha
  · exact hb
  · exact hc
  · exact hd
/-- What an append wants to know of a slice's type. -/
structure El (P : Program) (t e : TypeId) (size bytes : Nat) : Prop where
  ht : P.underlying t = some (.slice e)
  hi : ∃ i z, P.info? e = some i ∧ i.zero = some z ∧ i.size = size ∧ i.bytes = bytes ∧ z.cells.size = size
  pos : 0 < size
theorem El.mk' {P : Program} {t e : TypeId} {size bytes : Nat} (ht : P.underlying t = some (.slice e)) (h : (P.info? e).map (fun i => (i.zero.map fun z => z.cells.size, i.size, i.bytes)) = some (some size, size, bytes)) (hp : 0 < size) : El P t e size bytes := by
  refine ⟨ht, ?_, hp⟩
  cases hi : P.info? e with
  | none => rw [hi] at h; simp at h
  | some i =>
    rw [hi] at h
    simp only [Option.map_some, Option.some.injEq, Prod.mk.injEq] at h
    cases hz : i.zero with
    | none => rw [hz] at h; simp at h
    | some z =>
      rw [hz] at h
      simp only [Option.map_some, Option.some.injEq] at h
      exact ⟨i, z, rfl, hz, h.2.1, h.2.2, h.1⟩
section
variable {P : Program} {ops : Array Oper} {Q : Exit → Act → World → Prop} {a : Act} {W : World} {rest : List Oper} {o : Oper} {s x : Operand} {t e : TypeId} {size bytes base n m : Nat} {v : Value} {xs : List Value}
/-- append(own, x, ..): what was appended lies in the block that was made last. -/
theorem append_lit (E : El P t e size bytes) (cs : Array Value) (hown : W.ownsRow base e size v n xs) (hgd : o.guard = none)
    (ho : o.op = .call { callee := .builtin .append, args := #[s, x], argTypes := #[t, t] }) (hs : a.eval s = v) (hx : a.eval x = .slice (some ⟨W.heap.size, 0, none⟩) m m)
    (hl : cs.size = m * size) (h1 : ∀ u ∈ cs.toList, u.oneCell' = true) (h63 : n + m ≤ maxLen) (hbytes : (n + m) * bytes ≤ 140737488355328) (hbase : base ≤ W.heap.size)
    (h : ∀ v' w', w'.ownsRow base e size v' (n + m) (xs ++ cs.toList) → Below base W w' → W.grownBy w' v.ownBlock → wpList P ops Q rest (a.put o.dst v') w') : wpList P ops Q (o :: rest) a (W.alloc (.cells cs e)) := by
  obtain ⟨i, z, hi, hz, hsi, hby, hzs⟩ := E.hi
  refine wpList_append_own _ hgd s x t ho base e i z size bytes E.ht hi hz hsi hby hzs E.pos v n xs hs (hown.alloc _) ⟨W.heap.size, 0, none⟩ m m cs.toList hx (by simpa using hl) ?_ h1 h63 hbytes (by simp; omega) ?_
  · intro j u hu
    have : (⟨W.heap.size, 0, none⟩ : Addr).add j = ⟨W.heap.size, j, none⟩ := by unfold Addr.add; split <;> simp_all
    rw [this, World.cell?_alloc_new]
    simpa using hu
  · intro v' w' ho' hg _
    have hlt := hown.lt
    have hg' : W.grownBy w' v.ownBlock := ⟨hg.os, hg.tape, hg.output, Nat.le_trans (by simp) hg.size, fun k hk hne => (hg.block k (by simp; omega) hne).trans (Below.heap_alloc W _ k hk)⟩
    refine h v' w' ho' ⟨hg'.os, hg'.tape, hg'.output, hg'.size, fun k hk => ?_⟩ hg'
    exact hg'.block k (by omega) (fun e => by have := hlt k e.symm; omega)
/-- append(own, src...) with src a slice that reads ys and is not of the row's own block. -/
theorem append_sl (E : El P t e size bytes) (ys : List Value) (u : Value) (hown : W.ownsRow base e size v n xs) (hsl : Sl W size u m ys) (hgd : o.guard = none)
    (ho : o.op = .call { callee := .builtin .append, args := #[s, x], argTypes := #[t, t] }) (hs : a.eval s = v) (hx : a.eval x = u)
    (h1 : ∀ u ∈ ys, u.oneCell' = true) (h63 : n + m ≤ maxLen) (hbytes : (n + m) * bytes ≤ 140737488355328) (hbase : base ≤ W.heap.size)
    (h : ∀ v' w', w'.ownsRow base e size v' (n + m) (xs ++ ys) → Below base W w' → W.grownBy w' v.ownBlock → wpList P ops Q rest (a.put o.dst v') w') : wpList P ops Q (o :: rest) a W := by
  obtain ⟨i, z, hi, hz, hsi, hby, hzs⟩ := E.hi
  have hlt := hown.lt
  have fin : ∀ v' w', w'.ownsRow base e size v' (n + m) (xs ++ ys) → W.grownBy w' v.ownBlock → wpList P ops Q rest (a.put o.dst v') w' := fun v' w' ho' hg' => by
    refine h v' w' ho' ⟨hg'.os, hg'.tape, hg'.output, hg'.size, fun k hk => ?_⟩ hg'
    exact hg'.block k (by omega) (fun e => by have := hlt k e.symm; omega)
  obtain ⟨A, c, rfl, hl, _, _, h4, h5⟩ := hsl
  cases A with
  | none =>
    have hm : m = 0 := by
      rcases Nat.eq_zero_or_pos m with h | h
      · exact h
      · obtain ⟨ad, hh, _⟩ := h5 h
        cases hh
    subst hm
    obtain rfl := h4 rfl
    have hy : ys = [] := List.eq_nil_of_length_eq_zero (by simpa using hl)
    subst hy
    refine wpList_append_own_none hgd s x t ho base e i size E.ht hi v n xs hs hown hx ?_
    refine fin v W ?_ ⟨rfl, rfl, rfl, Nat.le_refl _, fun _ _ _ => rfl⟩
    simpa using hown
  | some ad =>
    refine wpList_append_own _ hgd s x t ho base e i z size bytes E.ht hi hz hsi hby hzs E.pos v n xs hs hown ad m c ys hx hl ?_ h1 h63 hbytes hbase fun v' w' ho' hg' _ => fin v' w' ho' hg'
    intro j u hu
    have hj : j < ys.length := by
      rcases Nat.lt_or_ge j ys.length with h | h
      · exact h
      · rw [List.getElem?_eq_none h] at hu; cases hu
    have hm : 0 < m := by
      rcases Nat.eq_zero_or_pos m with h | h
      · subst h; simp at hl; subst hl; simp at hj
      · exact h
    obtain ⟨ad', e', _, hc⟩ := h5 hm
    cases e'
    exact hc j u hu
end
/-- string(b). -/
theorem conv_bytes {P : Program} {w : World} {v : Value} {n : Nat} {l : List UInt8} {src dst e : TypeId} (hs : P.underlying src = some (.slice e)) (he : P.underlying e = some (.int .u8)) (hd : P.underlying dst = some .string)
    (h : Sl w 1 v n (l.map fun c => .int .u8 (c.toNat : Int))) : (convert src dst v).run P w = .ok (.string ⟨l.toArray⟩) w := by
  obtain ⟨A, c, rfl, h2, _, _, h4, h5⟩ := h
  have hn : n = l.length := by simpa using h2.symm
  cases A with
  | none =>
    have hm : n = 0 := by
      rcases Nat.eq_zero_or_pos n with h | h
      · exact h
      · obtain ⟨ad, hh, _⟩ := h5 h
        cases hh
    have hl : l = [] := List.eq_nil_of_length_eq_zero (by omega)
    subst hl
    rw [run_convert_bytes_string w src dst e _ _ _ hs he hd]
    simp [Conv.bytesToString]
    rfl
  | some ad =>
    have hl : (loadCells ad n).run P w = .ok ((l.map fun c => (c.toNat : Int)).map (Value.int .u8)).toArray w := by
      have := run_loadCells_list (P := P) w ad (l.map fun c => Value.int .u8 (c.toNat : Int)) (fun j u hu => by
        have hj : j < (l.map fun c => Value.int .u8 (c.toNat : Int)).length := by
          rcases Nat.lt_or_ge j (l.map fun c => Value.int .u8 (c.toNat : Int)).length with h | h
          · exact h
          · rw [List.getElem?_eq_none h] at hu; cases hu
        obtain ⟨ad', e', _, hc⟩ := h5 (by simp at hj; omega)
        cases e'
        exact hc j u hu)
      rw [List.length_map, ← hn] at this
      rw [this, List.map_map]; rfl
    rw [run_convert_bytes_string w src dst e _ _ _ hs he hd, run_bytesToString w ad n c _ hl, foldl_push_bytes]
    congr 2
    rw [List.map_map]
    have : (l.map ((fun n : Int => UInt8.ofNat n.toNat) ∘ fun c : UInt8 => (c.toNat : Int))) = l := by
      conv => rhs; rw [← List.map_id l]
      apply List.map_congr_left
      intro c _
      simp
    rw [this]
    simp
/-- string([]byte{..}): the bytes lie in the block that was made last. -/
theorem conv_new {P : Program} {l : List UInt8} {src dst e : TypeId} (hs : P.underlying src = some (.slice e)) (he : P.underlying e = some (.int .u8)) (hd : P.underlying dst = some .string) (w : World) (cs : Array Value) (n : Nat)
    (hcs : (l.map fun c => Value.int .u8 (c.toNat : Int)) = cs.toList) (hn : n = l.length) (hm : n ≤ maxLen) :
    (convert src dst (.slice (some ⟨w.heap.size, 0, none⟩) n n)).run P (w.alloc (.cells cs e)) = .ok (.string ⟨l.toArray⟩) (w.alloc (.cells cs e)) := by
  refine conv_bytes hs he hd ⟨some ⟨w.heap.size, 0, none⟩, n, rfl, by simp [hn], Nat.le_refl _, hm, (fun h => nomatch h), fun _ => ⟨_, rfl, by simp, fun j u hu => ?_⟩⟩
  have : (⟨w.heap.size, 0, none⟩ : Addr).add j = ⟨w.heap.size, j, none⟩ := by unfold Addr.add; split <;> simp_all
  rw [this, World.cell?_alloc_new, ← Array.getElem?_toList, ← hcs]
  exact hu
theorem str_append (a b : List UInt8) : (ByteArray.mk a.toArray) ++ ⟨b.toArray⟩ = ⟨(a ++ b).toArray⟩ := by
  apply ByteArray.ext
  simp [ByteArray.data_append]
/-- A block that is known whole. -/
def Blk (w : World) (g : Nat) (t : TypeId) (cs : Array Value) : Prop := w.heap[g]? = some (.cells cs t (0, 0))
section
variable {w w' : World} {g : Nat} {t : TypeId} {cs : Array Value}
theorem Blk.lt (h : Blk w g t cs) : g < w.heap.size := (Array.getElem?_eq_some_iff.1 h).1
theorem Blk.cell (h : Blk w g t cs) (i : Nat) : w.cell? ⟨g, i, none⟩ = cs[i]? := cell_of_row w g i cs t (0, 0) h
theorem Blk.frozen (h : Blk w g t cs) (i : Nat) : w.frozen? ⟨g, i, none⟩ = false := by
  unfold Blk at h
  simp [World.frozen?, h]
theorem Blk.new (w : World) (t : TypeId) (cs : Array Value) : Blk (w.alloc (.cells cs t)) w.heap.size t cs := heap_alloc_new w _
theorem Blk.alloc (h : Blk w g t cs) (o : Obj) : Blk (w.alloc o) g t cs := (Below.heap_alloc w o g h.lt).trans h
theorem Blk.set_ (h : Blk w g t cs) (i : Nat) (u : Value) : Blk (w.setCell ⟨g, i, none⟩ u) g t (cs.setIfInBounds i u) := by
  unfold Blk at h ⊢
  simp [World.setCell, Array.getElem?_modify, h]
theorem Blk.far (h : Blk w g t cs) {p : Addr} (hp : g ≠ p.block) (u : Value) : Blk (w.setCell p u) g t cs := (Below.heap_setCell w p u g hp).trans h
theorem Blk.below {B : Nat} (h : Blk w g t cs) (hb : Below B w w') (hg : g < B) : Blk w' g t cs := (hb.block g hg).trans h
/-- The two stores of a struct of two into its variable. -/
theorem Blk.set2 {F : World → Prop} {a b x y : Value} (h : Blk w g t #[a, b])
    (k : ∀ w3, Blk w3 g t #[x, y] → (∀ B, B ≤ g → Below B w w3) → w3.heap.size = w.heap.size → (∀ g', g' ≠ g → w3.heap[g']? = w.heap[g']?) → F w3) :
    F ((w.setCell ⟨g, 0, none⟩ x).setCell ⟨g, 1, none⟩ y) := by
  refine k _ ((h.set_ 0 x).set_ 1 y) (fun B hB => ((Below.refl B w).setCell hB _).setCell hB _) (by simp) (fun g' hg => ?_)
  rw [Below.heap_setCell _ _ _ _ hg, Below.heap_setCell _ _ _ _ hg]
end
end Go.Proofs.YtgokmldngnmmhaaDoor
/- Words for a world that has only grown: every block below a number is as it was. For regions that draw their order: what the loads read, shown anew behind each call and each new block. -/
namespace Go.Proofs.YtgokmldngnmmhaaDoor
open Go.RowKit
theorem undrew {w w' : World} (h : Below w.drew.heap.size w.drew w') : Below w.heap.size w w' := ⟨h.os, h.tape, h.output, h.size, h.block⟩
theorem bstep {w W w' : World} (h : Below w.heap.size w W) (hb : Below W.heap.size W w') : Below w.heap.size w w' := h.trans (hb.mono h.size)
theorem ex_alloc {w W : World} (h : Below w.heap.size w W) (o : Obj) : Below w.heap.size w (W.alloc o) := h.alloc h.size o
theorem ex_drew {w W : World} (h : Below w.heap.size w W) : Below w.heap.size w W.drew := h.drew
theorem ex_drewN {w W : World} (n : Nat) (h : Below w.heap.size w W) : Below w.heap.size w (W.drewN n) := ⟨h.os, h.tape, h.output, h.size, h.block⟩
/-- At a call: the world under a name of its own, that is known to have grown alone. -/
theorem calls_gen {P : Program} {f : FuncId} {args : Array Value} {w0 W : World} {K : Ending → World → Prop} (h : Below w0.heap.size w0 W) (k : ∀ W', Below w0.heap.size w0 W' → Calls P f args W' K) : Calls P f args W K := k W h
/-- What is read below N in w is what is read in W. -/
def Old (N : Nat) (W w : World) : Prop := ∀ b o, b < N → w.cell? ⟨b, o, none⟩ = W.cell? ⟨b, o, none⟩
theorem old_of {N : Nat} {W w : World} (h : Below N W w) : Old N W w := fun b o hb => h.cell (p := ⟨b, o, none⟩) hb
theorem bcell {W w1 : World} (hb : Below W.heap.size W w1) : (∀ b o, b < W.heap.size → w1.cell? ⟨b, o, none⟩ = W.cell? ⟨b, o, none⟩) ∧ (∀ b o, b < W.heap.size → w1.frozen? ⟨b, o, none⟩ = W.frozen? ⟨b, o, none⟩) :=
  ⟨fun b o h => hb.cell (p := ⟨b, o, none⟩) h, fun b o h => hb.frozen (p := ⟨b, o, none⟩) h⟩
theorem ext_start {N : Nat} {W : World} (hN : N = W.heap.size) : Below N W W.drew ∧ N ≤ W.drew.heap.size ∧ ∀ b o, b < N → W.drew.cell? ⟨b, o, none⟩ = W.cell? ⟨b, o, none⟩ :=
  ⟨(Below.refl _ _).drew, by simp [hN], fun _ _ _ => rfl⟩
theorem ext_call {N : Nat} {W w w' : World} (h : Below N W w ∧ N ≤ w.heap.size ∧ ∀ b o, b < N → w.cell? ⟨b, o, none⟩ = W.cell? ⟨b, o, none⟩) (hb : Below w.heap.size w w') :
    Below N W w' ∧ N ≤ w'.heap.size ∧ ∀ b o, b < N → w'.cell? ⟨b, o, none⟩ = W.cell? ⟨b, o, none⟩ := by
  have h2 : Below N W w' := h.1.trans (hb.mono h.2.1)
  exact ⟨h2, Nat.le_trans h.2.1 hb.size, old_of h2⟩
theorem ext_alloc {N : Nat} {W w : World} (o : Obj) (h : Below N W w ∧ N ≤ w.heap.size ∧ ∀ b o, b < N → w.cell? ⟨b, o, none⟩ = W.cell? ⟨b, o, none⟩) :
    Below N W (w.alloc o) ∧ N ≤ (w.alloc o).heap.size ∧ ∀ b o', b < N → (w.alloc o).cell? ⟨b, o', none⟩ = W.cell? ⟨b, o', none⟩ :=
  ext_call h ((Below.refl _ _).alloc (Nat.le_refl _) o)
end Go.Proofs.YtgokmldngnmmhaaDoor
