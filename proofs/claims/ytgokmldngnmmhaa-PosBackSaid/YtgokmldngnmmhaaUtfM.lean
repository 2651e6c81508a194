/- Plain facts about UTF-8 and UTF-16: the bytes of a rune, the rune at the beginning of bytes, one undoes the other. No program in sight. -/
import Derived.WalkKit
namespace Go.Proofs.Ytgokmldngnmmhaa
/-- A fact kept from the walk, which takes every plain hypothesis for a rule. -/
structure Hd (p : Prop) : Prop where
  out : p
namespace U
abbrev Bs := List UInt8
def by8 (n : Int) : UInt8 := UInt8.ofNat n.toNat
def right (r : Int) : Bool := decide ((0 ≤ r ∧ r < 55296) ∨ (57344 ≤ r ∧ r ≤ 1114111))
theorem right_iff {r : Int} : right r = true ↔ (0 ≤ r ∧ r < 55296) ∨ (57344 ≤ r ∧ r ≤ 1114111) := by unfold right; simp only [decide_eq_true_eq]
def enc (r : Int) : Bs :=
  if r < 128 then [by8 r]
  else if r < 2048 then [by8 (192 + r / 64), by8 (128 + r % 64)]
  else if r < 65536 then [by8 (224 + r / 4096), by8 (128 + r / 64 % 64), by8 (128 + r % 64)]
  else [by8 (240 + r / 262144), by8 (128 + r / 4096 % 64), by8 (128 + r / 64 % 64), by8 (128 + r % 64)]
def cont (c : UInt8) : Bool := decide (128 ≤ c.toNat ∧ c.toNat < 192)
theorem cont_iff {c : UInt8} : cont c = true ↔ 128 ≤ c.toNat ∧ c.toNat < 192 := by unfold cont; simp only [decide_eq_true_eq]
def r2 (a b : UInt8) : Int := (a.toNat : Int) % 32 * 64 + (b.toNat : Int) % 64
def r3 (a b c : UInt8) : Int := ((a.toNat : Int) % 16 * 64 + (b.toNat : Int) % 64) * 64 + (c.toNat : Int) % 64
def r4 (a b c d : UInt8) : Int := (((a.toNat : Int) % 8 * 64 + (b.toNat : Int) % 64) * 64 + (c.toNat : Int) % 64) * 64 + (d.toNat : Int) % 64
/-- The rune at the beginning of bytes, and how many bytes it takes; (0, 0): there is none. -/
def next : Bs → Int × Nat
  | [] => (0, 0)
  | a :: t =>
    if a.toNat < 128 then (a.toNat, 1)
    else if a.toNat < 194 then (0, 0)
    else if a.toNat < 224 then match t with
      | b :: _ => if cont b = true then (r2 a b, 2) else (0, 0)
      | _ => (0, 0)
    else if a.toNat < 240 then match t with
      | b :: c :: _ => if cont b = true ∧ cont c = true ∧ right (r3 a b c) = true ∧ 2048 ≤ r3 a b c then (r3 a b c, 3) else (0, 0)
      | _ => (0, 0)
    else if a.toNat < 245 then match t with
      | b :: c :: d :: _ => if cont b = true ∧ cont c = true ∧ cont d = true ∧ right (r4 a b c d) = true ∧ 65536 ≤ r4 a b c d then (r4 a b c d, 4) else (0, 0)
      | _ => (0, 0)
    else (0, 0)
def wid (r : Int) : Nat := if r < 128 then 1 else if r < 2048 then 2 else if r < 65536 then 3 else 4
theorem enc_length (r : Int) : (enc r).length = wid r := by
  unfold enc wid; repeat' split
  all_goals rfl
theorem wid_pos (r : Int) : 0 < wid r := by unfold wid; repeat' split
                                            all_goals omega
theorem wid_le (r : Int) : wid r ≤ 4 := by unfold wid; repeat' split
                                           all_goals omega
theorem enc_ne (r : Int) : enc r ≠ [] := fun h => by have := wid_pos r; rw [← enc_length, h] at this; simp at this
theorem by8_toNat {n : Int} (h : 0 ≤ n) (h2 : n < 256) : ((by8 n).toNat : Int) = n := by
  unfold by8
  rw [UInt8.toNat_ofNat']
  omega
theorem by8_self (c : UInt8) : by8 (c.toNat : Int) = c := by
  unfold by8; rw [Int.toNat_natCast]; exact UInt8.ofNat_toNat
theorem by8_eq {c : UInt8} {n : Int} (h : (c.toNat : Int) = n) : by8 n = c := by rw [← h]; exact by8_self c
theorem by8_inj {a b : Int} (ha : 0 ≤ a) (ha2 : a < 256) (hb : 0 ≤ b) (hb2 : b < 256) (h : by8 a = by8 b) : a = b := by
  have := congrArg (fun c => (c.toNat : Int)) h
  simp only [by8_toNat ha ha2, by8_toNat hb hb2] at this
  exact this
/-- A rune's bytes, with whatever behind, begin with that rune. -/
theorem next_enc {r : Int} (h : right r = true) (t : Bs) : next (enc r ++ t) = (r, wid r) := by
  have hr := right_iff.1 h
  unfold enc
  split
  · rename_i h1
    have e : ((by8 r).toNat : Int) = r := by8_toNat (by omega) (by omega)
    simp only [List.cons_append, List.nil_append, next]
    rw [if_pos (by omega), e]; unfold wid; rw [if_pos h1]
  · rename_i h1
    split
    · rename_i h2
      have e1 : ((by8 (192 + r / 64)).toNat : Int) = 192 + r / 64 := by8_toNat (by omega) (by omega)
      have e2 : ((by8 (128 + r % 64)).toNat : Int) = 128 + r % 64 := by8_toNat (by omega) (by omega)
      simp only [List.cons_append, List.nil_append, next]
      rw [if_neg (by omega), if_neg (by omega), if_pos (by omega), if_pos (cont_iff.2 (by omega))]
      unfold r2 wid
      rw [e1, e2, if_neg h1, if_pos h2]
      congr 1; omega
    · rename_i h2
      split
      · rename_i h3
        have e1 : ((by8 (224 + r / 4096)).toNat : Int) = 224 + r / 4096 := by8_toNat (by omega) (by omega)
        have e2 : ((by8 (128 + r / 64 % 64)).toNat : Int) = 128 + r / 64 % 64 := by8_toNat (by omega) (by omega)
        have e3 : ((by8 (128 + r % 64)).toNat : Int) = 128 + r % 64 := by8_toNat (by omega) (by omega)
        have er : r3 (by8 (224 + r / 4096)) (by8 (128 + r / 64 % 64)) (by8 (128 + r % 64)) = r := by
          unfold r3; rw [e1, e2, e3]; omega
        simp only [List.cons_append, List.nil_append, next]
        rw [if_neg (by omega), if_neg (by omega), if_neg (by omega), if_pos (by omega), er, if_pos ⟨cont_iff.2 (by omega), cont_iff.2 (by omega), h, by omega⟩]
        unfold wid
        rw [if_neg h1, if_neg h2, if_pos h3]
      · rename_i h3
        have e1 : ((by8 (240 + r / 262144)).toNat : Int) = 240 + r / 262144 := by8_toNat (by omega) (by omega)
        have e2 : ((by8 (128 + r / 4096 % 64)).toNat : Int) = 128 + r / 4096 % 64 := by8_toNat (by omega) (by omega)
        have e3 : ((by8 (128 + r / 64 % 64)).toNat : Int) = 128 + r / 64 % 64 := by8_toNat (by omega) (by omega)
        have e4 : ((by8 (128 + r % 64)).toNat : Int) = 128 + r % 64 := by8_toNat (by omega) (by omega)
        have er : r4 (by8 (240 + r / 262144)) (by8 (128 + r / 4096 % 64)) (by8 (128 + r / 64 % 64)) (by8 (128 + r % 64)) = r := by
          unfold r4; rw [e1, e2, e3, e4]; omega
        simp only [List.cons_append, List.nil_append, next]
        rw [if_neg (by omega), if_neg (by omega), if_neg (by omega), if_neg (by omega), if_pos (by omega), er,
          if_pos ⟨cont_iff.2 (by omega), cont_iff.2 (by omega), cont_iff.2 (by omega), h, by omega⟩]
        unfold wid
        rw [if_neg h1, if_neg h2, if_neg h3]
/-- Where a rune is found, the bytes begin with its bytes. -/
theorem next_pos (s : Bs) (h : (next s).2 ≠ 0) : right (next s).1 = true ∧ (next s).2 = wid (next s).1 ∧ s = enc (next s).1 ++ s.drop (next s).2 := by
  match s with
  | [] => simp [next] at h
  | a :: t =>
    simp only [next] at h ⊢
    by_cases h1 : a.toNat < 128
    · rw [if_pos h1] at h ⊢
      refine ⟨right_iff.2 (by omega), by unfold wid; rw [if_pos (by omega)], ?_⟩
      unfold enc; rw [if_pos (by omega)]; simp [by8_self]
    rw [if_neg h1] at h ⊢
    by_cases h2 : a.toNat < 194
    · rw [if_pos h2] at h; exact absurd rfl h
    rw [if_neg h2] at h ⊢
    by_cases h3 : a.toNat < 224
    · rw [if_pos h3] at h ⊢
      match t with
      | [] => exact absurd rfl h
      | b :: t =>
        dsimp only at h ⊢
        by_cases hb : cont b = true
        · rw [if_pos hb] at h ⊢
          have hb' := cont_iff.1 hb
          have e : r2 a b = (a.toNat : Int) % 32 * 64 + (b.toNat : Int) % 64 := rfl
          refine ⟨right_iff.2 (by dsimp only; omega), by unfold wid; dsimp only; rw [if_neg (by omega), if_pos (by omega)], ?_⟩
          unfold enc; dsimp only
          rw [if_neg (by omega), if_pos (by omega), by8_eq (c := a) (by omega), by8_eq (c := b) (by omega)]; rfl
        · rw [if_neg hb] at h; exact absurd rfl h
    rw [if_neg h3] at h ⊢
    by_cases h4 : a.toNat < 240
    · rw [if_pos h4] at h ⊢
      match t with
      | [] => exact absurd rfl h
      | [_] => exact absurd rfl h
      | b :: c :: t =>
        dsimp only at h ⊢
        by_cases hb : cont b = true ∧ cont c = true ∧ right (r3 a b c) = true ∧ 2048 ≤ r3 a b c
        · rw [if_pos hb] at h ⊢
          obtain ⟨hb1, hc1, hr, hlo⟩ := hb
          have hb' := cont_iff.1 hb1
          have hc' := cont_iff.1 hc1
          have e : r3 a b c = ((a.toNat : Int) % 16 * 64 + (b.toNat : Int) % 64) * 64 + (c.toNat : Int) % 64 := rfl
          refine ⟨hr, by unfold wid; dsimp only; rw [if_neg (by omega), if_neg (by omega), if_pos (by omega)], ?_⟩
          unfold enc; dsimp only
          rw [if_neg (by omega), if_neg (by omega), if_pos (by omega), by8_eq (c := a) (by omega), by8_eq (c := b) (by omega), by8_eq (c := c) (by omega)]; rfl
        · rw [if_neg hb] at h; exact absurd rfl h
    rw [if_neg h4] at h ⊢
    by_cases h5 : a.toNat < 245
    · rw [if_pos h5] at h ⊢
      match t with
      | [] => exact absurd rfl h
      | [_] => exact absurd rfl h
      | [_, _] => exact absurd rfl h
      | b :: c :: d :: t =>
        dsimp only at h ⊢
        by_cases hb : cont b = true ∧ cont c = true ∧ cont d = true ∧ right (r4 a b c d) = true ∧ 65536 ≤ r4 a b c d
        · rw [if_pos hb] at h ⊢
          obtain ⟨hb1, hc1, hd1, hr, hlo⟩ := hb
          have hb' := cont_iff.1 hb1
          have hc' := cont_iff.1 hc1
          have hd' := cont_iff.1 hd1
          have e : r4 a b c d = (((a.toNat : Int) % 8 * 64 + (b.toNat : Int) % 64) * 64 + (c.toNat : Int) % 64) * 64 + (d.toNat : Int) % 64 := rfl
          refine ⟨hr, by unfold wid; dsimp only; rw [if_neg (by omega), if_neg (by omega), if_neg (by omega)], ?_⟩
          unfold enc; dsimp only
          rw [if_neg (by omega), if_neg (by omega), if_neg (by omega), by8_eq (c := a) (by omega), by8_eq (c := b) (by omega), by8_eq (c := c) (by omega), by8_eq (c := d) (by omega)]; rfl
        · rw [if_neg hb] at h; exact absurd rfl h
    rw [if_neg h5] at h; exact absurd rfl h
end U
end Go.Proofs.Ytgokmldngnmmhaa
