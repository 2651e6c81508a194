/- Several texts of the proof, one behind the other: UtfM, UtfS, UtfH, RuA. -/
import Derived.WalkKit
/- Plain facts about UTF-8 and UTF-16: the bytes of a rune, the rune at the beginning of bytes, one undoes the other. No program in sight. -/
namespace Go.Proofs.YtgokmldngnmmhaaDoor
/-- A fact kept from the walk, which takes every plain hypothesis for a rule. -/
structure Hd (p : Prop) : Prop where
  out : p
namespace U
abbrev Bs := List UInt8
def by8 (n : Int) : UInt8 := UInt8.ofNat n.toNat
def right (r : Int) : Bool := decide ((0 ≤ r ∧ r < 55296) ∨ (57344 ≤ r ∧ r ≤ 1114111))
theorem right_iff {r : Int} : right r = true ↔ (0 ≤ r ∧ r < 55296) ∨ (57344 ≤ r ∧ r ≤ 1114111) := by unfold right; simp only [decide_eq_true_eq]
def enc (r : Int) : Bs :=
  if r < 128 then [by8 r]
  else if r < 2048 then [by8 (192 + r / 64), by8 (128 + r % 64)]
  else if r < 65536 then [by8 (224 + r / 4096), by8 (128 + r / 64 % 64), by8 (128 + r % 64)]
  else [by8 (240 + r / 262144), by8 (128 + r / 4096 % 64), by8 (128 + r / 64 % 64), by8 (128 + r % 64)]
def cont (c : UInt8) : Bool := decide (128 ≤ c.toNat ∧ c.toNat < 192)
theorem cont_iff {c : UInt8} : cont c = true ↔ 128 ≤ c.toNat ∧ c.toNat < 192 := by unfold cont; simp only [decide_eq_true_eq]
def r2 (a b : UInt8) : Int := (a.toNat : Int) % 32 * 64 + (b.toNat : Int) % 64
def r3 (a b c : UInt8) : Int := ((a.toNat : Int) % 16 * 64 + (b.toNat : Int) % 64) * 64 + (c.toNat : Int) % 64
def r4 (a b c d : UInt8) : Int := (((a.toNat : Int) % 8 * 64 + (b.toNat : Int) % 64) * 64 + (c.toNat : Int) % 64) * 64 + (d.toNat : Int) % 64
/-- The rune at the beginning of bytes, and how many bytes it takes; (0, 0): there is none. -/
def next : Bs → Int × Nat
  | [] => (0, 0)
  | a :: t =>
    if a.toNat < 128 then (a.toNat, 1)
    else if a.toNat < 194 then (0, 0)
    else if a.toNat < 224 then match t with
      | b :: _ => if cont b = true then (r2 a b, 2) else (0, 0)
      | _ => (0, 0)
    else if a.toNat < 240 then match t with
      | b :: c :: _ => if cont b = true ∧ cont c = true ∧ right (r3 a b c) = true ∧ 2048 ≤ r3 a b c then (r3 a b c, 3) else (0, 0)
      | _ => (0, 0)
    else if a.toNat < 245 then match t with
      | b :: c :: d :: _ => if cont b = true ∧ cont c = true ∧ cont d = true ∧ right (r4 a b c d) = true ∧ 65536 ≤ r4 a b c d then (r4 a b c d, 4) else (0, 0)
      | _ => (0, 0)
    else (0, 0)
def wid (r : Int) : Nat := if r < 128 then 1 else if r < 2048 then 2 else if r < 65536 then 3 else 4
theorem enc_length (r : Int) : (enc r).length = wid r := by
  unfold enc wid; repeat' split
  all_goals rfl
theorem wid_pos (r : Int) : 0 < wid r := by unfold wid; repeat' split
                                            all_goals omega
theorem wid_le (r : Int) : wid r ≤ 4 := by unfold wid; repeat' split
                                           all_goals omega
theorem enc_ne (r : Int) : enc r ≠ [] := fun h => by have := wid_pos r; rw [← enc_length, h] at this; simp at this
theorem by8_toNat {n : Int} (h : 0 ≤ n) (h2 : n < 256) : ((by8 n).toNat : Int) = n := by
  unfold by8
  rw [UInt8.toNat_ofNat']
  omega
theorem by8_self (c : UInt8) : by8 (c.toNat : Int) = c := by
  unfold by8; rw [Int.toNat_natCast]; exact UInt8.ofNat_toNat
theorem by8_eq {c : UInt8} {n : Int} (h : (c.toNat : Int) = n) : by8 n = c := by rw [← h]; exact by8_self c
theorem by8_inj {a b : Int} (ha : 0 ≤ a) (ha2 : a < 256) (hb : 0 ≤ b) (hb2 : b < 256) (h : by8 a = by8 b) : a = b := by
  have := congrArg (fun c => (c.toNat : Int)) h
  simp only [by8_toNat ha ha2, by8_toNat hb hb2] at this
  exact this
/-- A rune's bytes, with whatever behind, begin with that rune. -/
theorem next_enc {r : Int} (h : right r = true) (t : Bs) : next (enc r ++ t) = (r, wid r) := by
  have hr := right_iff.1 h
  unfold enc
  split
  · rename_i h1
    have e : ((by8 r).toNat : Int) = r := by8_toNat (by omega) (by omega)
    simp only [List.cons_append, List.nil_append, next]
    rw [if_pos (by omega), e]; unfold wid; rw [if_pos h1]
  · rename_i h1
    split
    · rename_i h2
      have e1 : ((by8 (192 + r / 64)).toNat : Int) = 192 + r / 64 := by8_toNat (by omega) (by omega)
      have e2 : ((by8 (128 + r % 64)).toNat : Int) = 128 + r % 64 := by8_toNat (by omega) (by omega)
      simp only [List.cons_append, List.nil_append, next]
      rw [if_neg (by omega), if_neg (by omega), if_pos (by omega), if_pos (cont_iff.2 (by omega))]
      unfold r2 wid
      rw [e1, e2, if_neg h1, if_pos h2]
      congr 1; omega
    · rename_i h2
      split
      · rename_i h3
        have e1 : ((by8 (224 + r / 4096)).toNat : Int) = 224 + r / 4096 := by8_toNat (by omega) (by omega)
        have e2 : ((by8 (128 + r / 64 % 64)).toNat : Int) = 128 + r / 64 % 64 := by8_toNat (by omega) (by omega)
        have e3 : ((by8 (128 + r % 64)).toNat : Int) = 128 + r % 64 := by8_toNat (by omega) (by omega)
        have er : r3 (by8 (224 + r / 4096)) (by8 (128 + r / 64 % 64)) (by8 (128 + r % 64)) = r := by
          unfold r3; rw [e1, e2, e3]; omega
        simp only [List.cons_append, List.nil_append, next]
        rw [if_neg (by omega), if_neg (by omega), if_neg (by omega), if_pos (by omega), er, if_pos ⟨cont_iff.2 (by omega), cont_iff.2 (by omega), h, by omega⟩]
        unfold wid
        rw [if_neg h1, if_neg h2, if_pos h3]
      · rename_i h3
        have e1 : ((by8 (240 + r / 262144)).toNat : Int) = 240 + r / 262144 := by8_toNat (by omega) (by omega)
        have e2 : ((by8 (128 + r / 4096 % 64)).toNat : Int) = 128 + r / 4096 % 64 := by8_toNat (by omega) (by omega)
        have e3 : ((by8 (128 + r / 64 % 64)).toNat : Int) = 128 + r / 64 % 64 := by8_toNat (by omega) (by omega)
        have e4 : ((by8 (128 + r % 64)).toNat : Int) = 128 + r % 64 := by8_toNat (by omega) (by omega)
        have er : r4 (by8 (240 + r / 262144)) (by8 (128 + r / 4096 % 64)) (by8 (128 + r / 64 % 64)) (by8 (128 + r % 64)) = r := by
          unfold r4; rw [e1, e2, e3, e4]; omega
        simp only [List.cons_append, List.nil_append, next]
        rw [if_neg (by omega), if_neg (by omega), if_neg (by omega), if_neg (by omega), if_pos (by omega), er,
          if_pos ⟨cont_iff.2 (by omega), cont_iff.2 (by omega), cont_iff.2 (by omega), h, by omega⟩]
        unfold wid
        rw [if_neg h1, if_neg h2, if_neg h3]
/-- Where a rune is found, the bytes begin with its bytes. -/
theorem next_pos (s : Bs) (h : (next s).2 ≠ 0) : right (next s).1 = true ∧ (next s).2 = wid (next s).1 ∧ s = enc (next s).1 ++ s.drop (next s).2 := by
  match s with
  | [] => simp [next] at h
  | a :: t =>
    simp only [next] at h ⊢
    by_cases h1 : a.toNat < 128
    · rw [if_pos h1] at h ⊢
      refine ⟨right_iff.2 (by omega), by unfold wid; rw [if_pos (by omega)], ?_⟩
      unfold enc; rw [if_pos (by omega)]; simp [by8_self]
    rw [if_neg h1] at h ⊢
    by_cases h2 : a.toNat < 194
    · rw [if_pos h2] at h; exact absurd rfl h
    rw [if_neg h2] at h ⊢
    by_cases h3 : a.toNat < 224
    · rw [if_pos h3] at h ⊢
      match t with
      | [] => exact absurd rfl h
      | b :: t =>
        dsimp only at h ⊢
        by_cases hb : cont b = true
        · rw [if_pos hb] at h ⊢
          have hb' := cont_iff.1 hb
          have e : r2 a b = (a.toNat : Int) % 32 * 64 + (b.toNat : Int) % 64 := rfl
          refine ⟨right_iff.2 (by dsimp only; omega), by unfold wid; dsimp only; rw [if_neg (by omega), if_pos (by omega)], ?_⟩
          unfold enc; dsimp only
          rw [if_neg (by omega), if_pos (by omega), by8_eq (c := a) (by omega), by8_eq (c := b) (by omega)]; rfl
        · rw [if_neg hb] at h; exact absurd rfl h
    rw [if_neg h3] at h ⊢
    by_cases h4 : a.toNat < 240
    · rw [if_pos h4] at h ⊢
      match t with
      | [] => exact absurd rfl h
      | [_] => exact absurd rfl h
      | b :: c :: t =>
        dsimp only at h ⊢
        by_cases hb : cont b = true ∧ cont c = true ∧ right (r3 a b c) = true ∧ 2048 ≤ r3 a b c
        · rw [if_pos hb] at h ⊢
          obtain ⟨hb1, hc1, hr, hlo⟩ := hb
          have hb' := cont_iff.1 hb1
          have hc' := cont_iff.1 hc1
          have e : r3 a b c = ((a.toNat : Int) % 16 * 64 + (b.toNat : Int) % 64) * 64 + (c.toNat : Int) % 64 := rfl
          refine ⟨hr, by unfold wid; dsimp only; rw [if_neg (by omega), if_neg (by omega), if_pos (by omega)], ?_⟩
          unfold enc; dsimp only
          rw [if_neg (by omega), if_neg (by omega), if_pos (by omega), by8_eq (c := a) (by omega), by8_eq (c := b) (by omega), by8_eq (c := c) (by omega)]; rfl
        · rw [if_neg hb] at h; exact absurd rfl h
    rw [if_neg h4] at h ⊢
    by_cases h5 : a.toNat < 245
    · rw [if_pos h5] at h ⊢
      match t with
      | [] => exact absurd rfl h
      | [_] => exact absurd rfl h
      | [_, _] => exact absurd rfl h
      | b :: c :: d :: t =>
        dsimp only at h ⊢
        by_cases hb : cont b = true ∧ cont c = true ∧ cont d = true ∧ right (r4 a b c d) = true ∧ 65536 ≤ r4 a b c d
        · rw [if_pos hb] at h ⊢
          obtain ⟨hb1, hc1, hd1, hr, hlo⟩ := hb
          have hb' := cont_iff.1 hb1
          have hc' := cont_iff.1 hc1
          have hd' := cont_iff.1 hd1
          have e : r4 a b c d = (((a.toNat : Int) % 8 * 64 + (b.toNat : Int) % 64) * 64 + (c.toNat : Int) % 64) * 64 + (d.toNat : Int) % 64 := rfl
          refine ⟨hr, by unfold wid; dsimp only; rw [if_neg (by omega), if_neg (by omega), if_neg (by omega)], ?_⟩
          unfold enc; dsimp only
          rw [if_neg (by omega), if_neg (by omega), if_neg (by omega), by8_eq (c := a) (by omega), by8_eq (c := b) (by omega), by8_eq (c := c) (by omega), by8_eq (c := d) (by omega)]; rfl
        · rw [if_neg hb] at h; exact absurd rfl h
    rw [if_neg h5] at h; exact absurd rfl h
end U
end Go.Proofs.YtgokmldngnmmhaaDoor
/- Plain facts about a text gone through rune by rune: what it begins with, where that ends. -/
namespace Go.Proofs.YtgokmldngnmmhaaDoor
namespace U
def encs (rs : List Int) : Bs := rs.flatMap enc
theorem encs_nil : encs [] = [] := rfl
theorem encs_cons (r : Int) (rs : List Int) : encs (r :: rs) = enc r ++ encs rs := by simp [encs]
theorem encs_append (a b : List Int) : encs (a ++ b) = encs a ++ encs b := by simp [encs]
def AllR (rs : List Int) : Prop := ∀ r ∈ rs, right r = true
/-- s is the bytes of rs, and behind them a rest at whose beginning no rune is. -/
structure Sp (s : Bs) (rs : List Int) (rest : Bs) : Prop where
  all : AllR rs
  eq : s = encs rs ++ rest
  bad : (next rest).2 = 0
theorem next_cases (s : Bs) : next s = (0, 0) ∨ (next s).2 ≠ 0 := by
  unfold next
  repeat' split
  all_goals first | exact .inl rfl | (right; simp; done)
theorem next_zero {s : Bs} (h : (next s).2 = 0) : next s = (0, 0) := (next_cases s).resolve_right (fun g => g h)
theorem next_le (s : Bs) : (next s).2 ≤ s.length := by
  by_cases h : (next s).2 = 0
  · omega
  · obtain ⟨_, h2, h3⟩ := next_pos s h
    have := congrArg List.length h3
    rw [List.length_append, enc_length, List.length_drop] at this
    omega
theorem sp_exists (s : Bs) : ∃ rs rest, Sp s rs rest := by
  generalize hn : s.length = n
  induction n using Nat.strongRecOn generalizing s with
  | _ n ih =>
    by_cases h : (next s).2 = 0
    · exact ⟨[], s, fun r hr => by simp at hr, rfl, h⟩
    · obtain ⟨h1, h2, h3⟩ := next_pos s h
      have hl := next_le s
      obtain ⟨rs, rest, g1, g2, g3⟩ := ih (s.drop (next s).2).length (by rw [List.length_drop]; omega) (s.drop (next s).2) rfl
      refine ⟨(next s).1 :: rs, rest, ?_, ?_, g3⟩
      · intro r hr
        rcases List.mem_cons.1 hr with rfl | hr
        · exact h1
        · exact g1 r hr
      · rw [encs_cons, List.append_assoc, ← g2]; exact h3
def off (rs : List Int) (k : Nat) : Nat := (encs (rs.take k)).length
theorem off_zero (rs : List Int) : off rs 0 = 0 := rfl
theorem off_succ {rs : List Int} {k : Nat} (h : k < rs.length) : off rs (k + 1) = off rs k + wid rs[k] := by
  unfold off
  rw [List.take_succ_eq_append_getElem h, encs_append, List.length_append, encs_cons, encs_nil, List.append_nil, enc_length]
theorem encs_drop_off (rs : List Int) (k : Nat) (rest : Bs) : (encs rs ++ rest).drop (off rs k) = encs (rs.drop k) ++ rest := by
  have : encs rs ++ rest = encs (rs.take k) ++ (encs (rs.drop k) ++ rest) := by rw [← List.append_assoc, ← encs_append, List.take_append_drop]
  rw [this]; unfold off; rw [List.drop_left]
variable {s : Bs} {rs : List Int} {rest : Bs}
theorem Sp.drop (h : Sp s rs rest) (k : Nat) : s.drop (off rs k) = encs (rs.drop k) ++ rest := by rw [h.eq, encs_drop_off]
theorem Sp.next_at (h : Sp s rs rest) {k : Nat} (hk : k < rs.length) : next (s.drop (off rs k)) = (rs[k], wid rs[k]) := by
  rw [h.drop, List.drop_eq_getElem_cons hk, encs_cons, List.append_assoc]
  exact next_enc (h.all _ (List.getElem_mem hk)) _
theorem Sp.next_end (h : Sp s rs rest) : next (s.drop (off rs rs.length)) = (0, 0) := by
  rw [h.drop, List.drop_length, encs_nil, List.nil_append]
  exact next_zero h.bad
theorem off_full (rs : List Int) : off rs rs.length = (encs rs).length := by unfold off; rw [List.take_length]
theorem Sp.length (h : Sp s rs rest) : s.length = off rs rs.length + rest.length := by rw [h.eq, List.length_append, off_full]
theorem off_lt {k : Nat} (h : k < rs.length) : off rs k < off rs rs.length := by
  have e : off rs rs.length = off rs k + (encs (rs.drop k)).length := by
    rw [off_full, off, ← List.length_append, ← encs_append, List.take_append_drop]
  rw [e, List.drop_eq_getElem_cons h, encs_cons, List.length_append, enc_length]
  have := wid_pos rs[k]
  omega
theorem off_le {k : Nat} (h : k ≤ rs.length) : off rs k ≤ off rs rs.length := by
  rcases Nat.lt_or_ge k rs.length with h1 | h1
  · exact Nat.le_of_lt (off_lt h1)
  · rw [show k = rs.length from Nat.le_antisymm h h1]; exact Nat.le_refl _
theorem len_le_off (rs : List Int) : rs.length ≤ off rs rs.length := by
  induction rs with
  | nil => simp
  | cons r rs ih =>
    rw [off_full] at ih ⊢
    rw [encs_cons, List.length_append, enc_length, List.length_cons]
    have := wid_pos r
    omega
theorem Sp.unique {rs' : List Int} {rest' : Bs} (h : Sp s rs rest) (h' : Sp s rs' rest') : rs = rs' ∧ rest = rest' := by
  induction rs generalizing s rs' with
  | nil =>
    cases rs' with
    | nil => exact ⟨rfl, by have := h.eq.symm.trans h'.eq; simpa [encs] using this⟩
    | cons r rs' =>
      have h1 := h.next_end
      have h2 := h'.next_at (k := 0) (by simp)
      rw [off_zero, List.drop_zero] at h2
      simp [off_zero] at h1
      rw [h1] at h2
      have := wid_pos r
      simp at h2; omega
  | cons r rs ih =>
    have h1 := h.next_at (k := 0) (by simp)
    rw [off_zero, List.drop_zero] at h1
    cases rs' with
    | nil =>
      have h2 := h'.next_end
      simp [off_zero] at h2
      rw [h2] at h1
      have := wid_pos r
      simp at h1; omega
    | cons r' rs' =>
      have h2 := h'.next_at (k := 0) (by simp)
      rw [off_zero, List.drop_zero, h1] at h2
      simp only [List.getElem_cons_zero, Prod.mk.injEq] at h2
      obtain ⟨rfl, _⟩ := h2
      have e := h.eq.symm.trans h'.eq
      rw [encs_cons, encs_cons, List.append_assoc, List.append_assoc] at e
      have e2 := List.append_cancel_left e
      obtain ⟨g1, g2⟩ := ih (s := encs rs ++ rest) ⟨fun x hx => h.all x (List.mem_cons_of_mem _ hx), rfl, h.bad⟩ ⟨fun x hx => h'.all x (List.mem_cons_of_mem _ hx), e2, h'.bad⟩
      exact ⟨by rw [g1], g2⟩
theorem sp_encs {rs : List Int} (h : AllR rs) : Sp (encs rs) rs [] := ⟨h, by simp, rfl⟩
end U
end Go.Proofs.YtgokmldngnmmhaaDoor
/- Plain facts about UTF-16: the halves of runes, and back. No program in sight. -/
namespace Go.Proofs.YtgokmldngnmmhaaDoor
namespace U
def hv (r : Int) : List Int := if r < 65536 then [r] else [55296 + (r - 65536) / 1024, 56320 + (r - 65536) % 1024]
def hvs (rs : List Int) : List Int := rs.flatMap hv
theorem hvs_nil : hvs [] = [] := rfl
theorem hvs_cons (r : Int) (rs : List Int) : hvs (r :: rs) = hv r ++ hvs rs := by simp [hvs]
theorem hvs_append (a b : List Int) : hvs (a ++ b) = hvs a ++ hvs b := by simp [hvs]
def hwid (r : Int) : Nat := if r < 65536 then 1 else 2
theorem hv_length (r : Int) : (hv r).length = hwid r := by unfold hv hwid; split <;> rfl
theorem hwid_pos (r : Int) : 0 < hwid r := by unfold hwid; split <;> omega
theorem hwid_le (r : Int) : hwid r ≤ 2 := by unfold hwid; split <;> omega
theorem hvs_len_le (rs : List Int) : (hvs rs).length ≤ 2 * rs.length := by
  induction rs with
  | nil => simp [hvs_nil]
  | cons r rs ih =>
    rw [hvs_cons, List.length_append, hv_length, List.length_cons]
    have := hwid_le r
    omega
theorem encs_le_hvs (rs : List Int) : (encs rs).length ≤ 4 * (hvs rs).length := by
  induction rs with
  | nil => simp [hvs_nil, encs_nil]
  | cons r rs ih =>
    rw [hvs_cons, encs_cons, List.length_append, List.length_append, enc_length, hv_length]
    have := wid_le r
    have := hwid_pos r
    omega
/-- Is l's beginning no whole rune? -/
def BadH (l : List Int) : Prop := match l with
  | [] => True
  | [a] => 55296 ≤ a ∧ a < 57344
  | a :: b :: _ => 55296 ≤ a ∧ a < 57344 ∧ (56320 ≤ a ∨ b < 56320 ∨ 57344 ≤ b)
structure Hp (l pre rest : List Int) : Prop where
  all : AllR pre
  eq : l = hvs pre ++ rest
  bad : BadH rest
def InH (l : List Int) : Prop := ∀ a ∈ l, 0 ≤ a ∧ a < 65536
theorem hp_exists (l : List Int) (hl : InH l) : ∃ pre rest, Hp l pre rest := by
  generalize hn : l.length = n
  induction n using Nat.strongRecOn generalizing l with
  | _ n ih =>
    match l, hl, hn with
    | [], _, _ => exact ⟨[], [], fun r hr => by simp at hr, rfl, trivial⟩
    | a :: t, hl, hn =>
      have ha := hl a List.mem_cons_self
      by_cases h1 : 55296 ≤ a ∧ a < 57344
      · match t, hl, hn with
        | [], _, _ => exact ⟨[], [a], fun r hr => by simp at hr, rfl, h1⟩
        | b :: t, hl, hn =>
          have hb := hl b (by simp)
          by_cases h2 : 56320 ≤ a ∨ b < 56320 ∨ 57344 ≤ b
          · exact ⟨[], a :: b :: t, fun r hr => by simp at hr, rfl, h1.1, h1.2, h2⟩
          · obtain ⟨pre, rest, g1, g2, g3⟩ := ih t.length (by simp at hn; omega) t (fun x hx => hl x (by simp [hx])) rfl
            refine ⟨(65536 + (a - 55296) * 1024 + (b - 56320)) :: pre, rest, ?_, ?_, g3⟩
            · intro x hx
              rcases List.mem_cons.1 hx with rfl | hx
              · exact right_iff.2 (by omega)
              · exact g1 x hx
            · rw [hvs_cons, g2]
              unfold hv
              rw [if_neg (by omega)]
              have e1 : 55296 + (65536 + (a - 55296) * 1024 + (b - 56320) - 65536) / 1024 = a := by omega
              have e2 : 56320 + (65536 + (a - 55296) * 1024 + (b - 56320) - 65536) % 1024 = b := by omega
              rw [e1, e2]; rfl
      · obtain ⟨pre, rest, g1, g2, g3⟩ := ih t.length (by simp at hn; omega) t (fun x hx => hl x (by simp [hx])) rfl
        refine ⟨a :: pre, rest, ?_, ?_, g3⟩
        · intro x hx
          rcases List.mem_cons.1 hx with rfl | hx
          · exact right_iff.2 (by omega)
          · exact g1 x hx
        · rw [hvs_cons, g2]; unfold hv; rw [if_pos (by omega)]; rfl
def hoff (rs : List Int) (k : Nat) : Nat := (hvs (rs.take k)).length
theorem hoff_zero (rs : List Int) : hoff rs 0 = 0 := rfl
theorem hoff_succ {rs : List Int} {k : Nat} (h : k < rs.length) : hoff rs (k + 1) = hoff rs k + hwid rs[k] := by
  unfold hoff
  rw [List.take_succ_eq_append_getElem h, hvs_append, List.length_append, hvs_cons, hvs_nil, List.append_nil, hv_length]
theorem hoff_full (rs : List Int) : hoff rs rs.length = (hvs rs).length := by unfold hoff; rw [List.take_length]
theorem hvs_drop_hoff (rs : List Int) (k : Nat) (rest : List Int) : (hvs rs ++ rest).drop (hoff rs k) = hvs (rs.drop k) ++ rest := by
  have : hvs rs ++ rest = hvs (rs.take k) ++ (hvs (rs.drop k) ++ rest) := by rw [← List.append_assoc, ← hvs_append, List.take_append_drop]
  rw [this]; unfold hoff; rw [List.drop_left]
theorem hoff_lt {rs : List Int} {k : Nat} (h : k < rs.length) : hoff rs k < hoff rs rs.length := by
  have e : hoff rs rs.length = hoff rs k + (hvs (rs.drop k)).length := by
    rw [hoff_full, hoff, ← List.length_append, ← hvs_append, List.take_append_drop]
  rw [e, List.drop_eq_getElem_cons h, hvs_cons, List.length_append, hv_length]
  have := hwid_pos rs[k]
  omega
theorem hoff_le {rs : List Int} {k : Nat} (h : k ≤ rs.length) : hoff rs k ≤ hoff rs rs.length := by
  rcases Nat.lt_or_ge k rs.length with h1 | h1
  · exact Nat.le_of_lt (hoff_lt h1)
  · rw [show k = rs.length from Nat.le_antisymm h h1]; exact Nat.le_refl _
theorem hvs_in {rs : List Int} (h : AllR rs) : InH (hvs rs) := by
  induction rs with
  | nil => intro a ha; simp [hvs_nil] at ha
  | cons r rs ih =>
    intro a ha
    rw [hvs_cons, List.mem_append] at ha
    rcases ha with ha | ha
    · have hr := right_iff.1 (h r List.mem_cons_self)
      unfold hv at ha
      split at ha
      · simp at ha; omega
      · simp at ha; omega
    · exact ih (fun x hx => h x (List.mem_cons_of_mem _ hx)) a ha
variable {l pre rest : List Int}
theorem Hp.length (h : Hp l pre rest) : l.length = hoff pre pre.length + rest.length := by rw [h.eq, List.length_append, hoff_full]
/-- The half, or the two, of rune k. -/
theorem Hp.at_ (h : Hp l pre rest) {k : Nat} (hk : k < pre.length) (j : Nat) (hj : j < hwid pre[k]) : l[hoff pre k + j]? = (hv pre[k])[j]? := by
  have e : l.drop (hoff pre k) = hv pre[k] ++ (hvs (pre.drop (k + 1)) ++ rest) := by
    rw [h.eq, hvs_drop_hoff, List.drop_eq_getElem_cons hk, hvs_cons, List.append_assoc]
  have := congrArg (fun x => x[j]?) e
  simp only [List.getElem?_drop] at this
  rw [this, List.getElem?_append_left (by rw [hv_length]; exact hj)]
theorem Hp.end_ (h : Hp l pre rest) (j : Nat) : l[hoff pre pre.length + j]? = rest[j]? := by
  have e : l.drop (hoff pre pre.length) = rest := by
    rw [h.eq, hvs_drop_hoff, List.drop_length, hvs_nil, List.nil_append]
  have := congrArg (fun x => x[j]?) e
  simpa only [List.getElem?_drop] using this
end U
end Go.Proofs.YtgokmldngnmmhaaDoor
/- Operations thing by thing, in plain Lean: apply, transform, compose, least form, and what holds among them. -/
namespace Go.Proofs.YtgokmldngnmmhaaDoor
/-- One of an operation: a thing that is put, one that is kept, one that is dropped. -/
inductive RU (α : Type) where
  | p (r : α)
  | k
  | d
/-- What an operation makes of a list. -/
def rap {α : Type} : List (RU α) → List α → List α
  | .p r :: X, R => r :: rap X R
  | .k :: X, r :: R => r :: rap X R
  | .d :: X, _ :: R => rap X R
  | _, _ => []
/-- An operation is over just so many. -/
def rwas {α : Type} : List (RU α) → Nat
  | [] => 0
  | .p _ :: X => rwas X
  | .k :: X => rwas X + 1
  | .d :: X => rwas X + 1
/-- How many come. -/
def rlen {α : Type} : List (RU α) → Nat
  | [] => 0
  | .p _ :: X => rlen X + 1
  | .k :: X => rlen X + 1
  | .d :: X => rlen X
theorem rap_len {α : Type} {X : List (RU α)} {R : List α} (h : rwas X = R.length) : (rap X R).length = rlen X := by
  induction X generalizing R with
  | nil => simp [rap, rlen]
  | cons x X ih =>
    cases x with
    | p r => simp [rap, rlen, ih (R := R) h]
    | k => cases R with
      | nil => simp [rwas] at h
      | cons r R => simp [rap, rlen, ih (R := R) (by simpa [rwas] using h)]
    | d => cases R with
      | nil => simp [rwas] at h
      | cons r R => simp [rap, rlen, ih (R := R) (by simpa [rwas] using h)]
/-- One over what another one makes. -/
def rtr {α : Type} (first : Bool) : List (RU α) → List (RU α) → List (RU α)
  | .p r :: X, .p s :: Y => if first = true then .p r :: rtr first X (.p s :: Y) else .k :: rtr first (.p r :: X) Y
  | .p r :: X, .k :: Y => .p r :: rtr first X (.k :: Y)
  | .p r :: X, .d :: Y => .p r :: rtr first X (.d :: Y)
  | .p r :: X, [] => .p r :: rtr first X []
  | .k :: X, .p _ :: Y => .k :: rtr first (.k :: X) Y
  | .d :: X, .p _ :: Y => .k :: rtr first (.d :: X) Y
  | [], .p _ :: Y => .k :: rtr first [] Y
  | .k :: X, .k :: Y => .k :: rtr first X Y
  | .d :: X, .k :: Y => .d :: rtr first X Y
  | .k :: X, .d :: Y => rtr first X Y
  | .d :: X, .d :: Y => rtr first X Y
  | .k :: _, [] => []
  | .d :: _, [] => []
  | [], .k :: _ => []
  | [], .d :: _ => []
  | [], [] => []
termination_by X Y => X.length + Y.length
/-- Both in one. -/
def rcm {α : Type} : List (RU α) → List (RU α) → List (RU α)
  | .d :: X, Y => .d :: rcm X Y
  | .p r :: X, .p s :: Y => .p s :: rcm (.p r :: X) Y
  | .k :: X, .p s :: Y => .p s :: rcm (.k :: X) Y
  | [], .p s :: Y => .p s :: rcm [] Y
  | .p r :: X, .k :: Y => .p r :: rcm X Y
  | .p _ :: X, .d :: Y => rcm X Y
  | .k :: X, .k :: Y => .k :: rcm X Y
  | .k :: X, .d :: Y => .d :: rcm X Y
  | .p _ :: _, [] => []
  | .k :: _, [] => []
  | [], .k :: _ => []
  | [], .d :: _ => []
  | [], [] => []
termination_by X Y => X.length + Y.length
/-- Who comes first is not seen. -/
theorem rtr_meet {α : Type} {first : Bool} {X Y : List (RU α)} {R : List α} (hx : rwas X = R.length) (hy : rwas Y = R.length) :
    rap (rtr first X Y) (rap Y R) = rap (rtr (!first) Y X) (rap X R) ∧ rwas (rtr first X Y) = rlen Y ∧ rwas (rtr (!first) Y X) = rlen X := by
  generalize hm : X.length + Y.length = m
  induction m using Nat.strongRecOn generalizing X Y R with
  | _ m ih =>
    have step : ∀ (X' Y' : List (RU α)) (R' : List α), X'.length + Y'.length < m → rwas X' = R'.length → rwas Y' = R'.length →
      rap (rtr first X' Y') (rap Y' R') = rap (rtr (!first) Y' X') (rap X' R') ∧ rwas (rtr first X' Y') = rlen Y' ∧ rwas (rtr (!first) Y' X') = rlen X' := fun X' Y' R' h1 h2 h3 => ih _ h1 h2 h3 rfl
    clear ih
    match X, Y, R with
    | [], [], R => cases first <;> simp [rtr, rap, rwas, rlen]
    | .p r :: X, [], R =>
      have := step X [] R (by simp at hm ⊢; omega) hx hy
      cases first <;> simp_all [rtr, rap, rwas, rlen]
    | [], .p r :: Y, R =>
      have := step [] Y R (by simp at hm ⊢; omega) hx hy
      cases first <;> simp_all [rtr, rap, rwas, rlen]
    | .k :: X, [], R => simp [rwas] at hx hy; omega
    | .d :: X, [], R => simp [rwas] at hx hy; omega
    | [], .k :: X, R => simp [rwas] at hx hy; omega
    | [], .d :: X, R => simp [rwas] at hx hy; omega
    | .p r :: X, .p s :: Y, R =>
      cases first with
      | true =>
        have := step X (.p s :: Y) R (by simp at hm ⊢; omega) hx hy
        simp_all [rtr, rap, rwas, rlen]
      | false =>
        have := step (.p r :: X) Y R (by simp at hm ⊢; omega) hx hy
        simp_all [rtr, rap, rwas, rlen]
    | .p r :: X, .k :: Y, R =>
      have := step X (.k :: Y) R (by simp at hm ⊢; omega) hx hy
      cases first <;> simp_all [rtr, rap, rwas, rlen]
    | .p r :: X, .d :: Y, R =>
      have := step X (.d :: Y) R (by simp at hm ⊢; omega) hx hy
      cases first <;> simp_all [rtr, rap, rwas, rlen]
    | .k :: X, .p s :: Y, R =>
      have := step (.k :: X) Y R (by simp at hm ⊢; omega) hx hy
      cases first <;> simp_all [rtr, rap, rwas, rlen]
    | .d :: X, .p s :: Y, R =>
      have := step (.d :: X) Y R (by simp at hm ⊢; omega) hx hy
      cases first <;> simp_all [rtr, rap, rwas, rlen]
    | .k :: X, .k :: Y, [] => simp [rwas] at hx
    | .k :: X, .d :: Y, [] => simp [rwas] at hx
    | .d :: X, .k :: Y, [] => simp [rwas] at hx
    | .d :: X, .d :: Y, [] => simp [rwas] at hx
    | .k :: X, .k :: Y, r :: R =>
      have := step X Y R (by simp at hm ⊢; omega) (by simpa [rwas] using hx) (by simpa [rwas] using hy)
      simp_all [rtr, rap, rwas, rlen]
    | .k :: X, .d :: Y, r :: R =>
      have := step X Y R (by simp at hm ⊢; omega) (by simpa [rwas] using hx) (by simpa [rwas] using hy)
      simp_all [rtr, rap, rwas, rlen]
    | .d :: X, .k :: Y, r :: R =>
      have := step X Y R (by simp at hm ⊢; omega) (by simpa [rwas] using hx) (by simpa [rwas] using hy)
      simp_all [rtr, rap, rwas, rlen]
    | .d :: X, .d :: Y, r :: R =>
      have := step X Y R (by simp at hm ⊢; omega) (by simpa [rwas] using hx) (by simpa [rwas] using hy)
      simp_all [rtr, rap, rwas, rlen]

theorem rcm_was {α : Type} {X Y : List (RU α)} (h : rwas Y = rlen X) : rwas (rcm X Y) = rwas X ∧ rlen (rcm X Y) = rlen Y := by
  generalize hm : X.length + Y.length = m
  induction m using Nat.strongRecOn generalizing X Y with
  | _ m ih =>
    have step : ∀ (X' Y' : List (RU α)), X'.length + Y'.length < m → rwas Y' = rlen X' → rwas (rcm X' Y') = rwas X' ∧ rlen (rcm X' Y') = rlen Y' := fun X' Y' h1 h2 => ih _ h1 h2 rfl
    clear ih
    match X, Y with
    | .d :: X, Y => have := step X Y (by simp at hm ⊢; omega) h; simp_all [rcm, rwas, rlen]
    | .p r :: X, .p s :: Y => have := step (.p r :: X) Y (by simp at hm ⊢; omega) h; simp_all [rcm, rwas, rlen]
    | .k :: X, .p s :: Y => have := step (.k :: X) Y (by simp at hm ⊢; omega) h; simp_all [rcm, rwas, rlen]
    | [], .p s :: Y => have := step [] Y (by simp at hm ⊢; omega) h; simp_all [rcm, rwas, rlen]
    | .p r :: X, .k :: Y => have := step X Y (by simp at hm ⊢; omega) (by simpa [rwas, rlen] using h); simp_all [rcm, rwas, rlen]
    | .p r :: X, .d :: Y => have := step X Y (by simp at hm ⊢; omega) (by simpa [rwas, rlen] using h); simp_all [rcm, rwas, rlen]
    | .k :: X, .k :: Y => have := step X Y (by simp at hm ⊢; omega) (by simpa [rwas, rlen] using h); simp_all [rcm, rwas, rlen]
    | .k :: X, .d :: Y => have := step X Y (by simp at hm ⊢; omega) (by simpa [rwas, rlen] using h); simp_all [rcm, rwas, rlen]
    | .p r :: X, [] => simp [rwas, rlen] at h
    | .k :: X, [] => simp [rwas, rlen] at h
    | [], .k :: Y => simp [rwas, rlen] at h
    | [], .d :: Y => simp [rwas, rlen] at h
    | [], [] => simp [rcm, rwas, rlen]
theorem rcm_rap {α : Type} {X Y : List (RU α)} {R : List α} (hx : rwas X = R.length) (hy : rwas Y = rlen X) : rap (rcm X Y) R = rap Y (rap X R) := by
  generalize hm : X.length + Y.length = m
  induction m using Nat.strongRecOn generalizing X Y R with
  | _ m ih =>
    have step : ∀ (X' Y' : List (RU α)) (R' : List α), X'.length + Y'.length < m → rwas X' = R'.length → rwas Y' = rlen X' → rap (rcm X' Y') R' = rap Y' (rap X' R') := fun X' Y' R' h1 h2 h3 => ih _ h1 h2 h3 rfl
    clear ih
    match X, Y, R with
    | .d :: X, Y, r :: R => have := step X Y R (by simp at hm ⊢; omega) (by simpa [rwas] using hx) hy; simp_all [rcm, rwas, rlen, rap]
    | .p r :: X, .p s :: Y, R => have := step (.p r :: X) Y R (by simp at hm ⊢; omega) hx hy; simp_all [rcm, rwas, rlen, rap]
    | .k :: X, .p s :: Y, R => have := step (.k :: X) Y R (by simp at hm ⊢; omega) hx hy; simp_all [rcm, rwas, rlen, rap]
    | [], .p s :: Y, R => have := step [] Y R (by simp at hm ⊢; omega) hx hy; simp_all [rcm, rwas, rlen, rap]
    | .p r :: X, .k :: Y, R => have := step X Y R (by simp at hm ⊢; omega) hx (by simpa [rwas, rlen] using hy); simp_all [rcm, rwas, rlen, rap]
    | .p r :: X, .d :: Y, R => have := step X Y R (by simp at hm ⊢; omega) hx (by simpa [rwas, rlen] using hy); simp_all [rcm, rwas, rlen, rap]
    | .k :: X, .k :: Y, r :: R => have := step X Y R (by simp at hm ⊢; omega) (by simpa [rwas] using hx) (by simpa [rwas, rlen] using hy); simp_all [rcm, rwas, rlen, rap]
    | .k :: X, .d :: Y, r :: R => have := step X Y R (by simp at hm ⊢; omega) (by simpa [rwas] using hx) (by simpa [rwas, rlen] using hy); simp_all [rcm, rwas, rlen, rap]
    | .d :: X, Y, [] => simp [rwas] at hx
    | .k :: X, .k :: Y, [] => simp [rwas] at hx
    | .k :: X, .d :: Y, [] => simp [rwas] at hx
    | .p r :: X, [], R => simp [rwas, rlen] at hy
    | .k :: X, [], R => simp [rwas, rlen] at hy
    | [], .k :: Y, R => simp [rwas, rlen] at hy
    | [], .d :: Y, R => simp [rwas, rlen] at hy
    | [], [], R => simp [rcm, rap]
/-- Least form: what is put stands ahead of what is dropped there. n: how many were dropped. -/
def rnm {α : Type} : Nat → List (RU α) → List (RU α)
  | n, .p r :: X => .p r :: rnm n X
  | n, .d :: X => rnm (n + 1) X
  | n, .k :: X => List.replicate n .d ++ .k :: rnm 0 X
  | n, [] => List.replicate n .d
theorem rap_ds {α : Type} (n : Nat) (X : List (RU α)) (R : List α) : rap (List.replicate n .d ++ X) R = if n ≤ R.length then rap X (R.drop n) else [] := by
  induction n generalizing R with
  | zero => simp
  | succ n ih =>
    rw [List.replicate_succ, List.cons_append]
    cases R with
    | nil => simp [rap]
    | cons r R => rw [rap, ih]; simp
theorem rwas_append {α : Type} (X Y : List (RU α)) : rwas (X ++ Y) = rwas X + rwas Y := by
  induction X with
  | nil => simp [rwas]
  | cons x X ih => cases x <;> simp [rwas, ih] <;> omega
theorem rlen_append {α : Type} (X Y : List (RU α)) : rlen (X ++ Y) = rlen X + rlen Y := by
  induction X with
  | nil => simp [rlen]
  | cons x X ih => cases x <;> simp [rlen, ih] <;> omega
theorem rwas_ds {α : Type} (n : Nat) : rwas (List.replicate n (.d : RU α)) = n := by
  induction n with
  | zero => rfl
  | succ n ih => rw [List.replicate_succ, rwas, ih]
theorem rlen_ds {α : Type} (n : Nat) : rlen (List.replicate n (.d : RU α)) = 0 := by
  induction n with
  | zero => rfl
  | succ n ih => rw [List.replicate_succ, rlen, ih]
theorem rnm_was {α : Type} (n : Nat) (X : List (RU α)) : rwas (rnm n X) = n + rwas X ∧ rlen (rnm n X) = rlen X := by
  induction X generalizing n with
  | nil => simp [rnm, rwas_ds, rlen_ds, rwas, rlen]
  | cons x X ih =>
    cases x with
    | p r => have := ih n; simp [rnm, rwas, rlen, this]
    | d => have := ih (n + 1); simp [rnm, rwas, rlen, this]; omega
    | k => have := ih 0; simp [rnm, rwas, rlen, this, rwas_append, rlen_append, rwas_ds, rlen_ds]
theorem rnm_rap {α : Type} (n : Nat) (X : List (RU α)) (R : List α) (h : n + rwas X ≤ R.length) : rap (rnm n X) R = rap X (R.drop n) := by
  induction X generalizing n R with
  | nil => rw [rnm]; have := rap_ds n [] R; rw [List.append_nil] at this; rw [this]; simp [rap]
  | cons x X ih =>
    cases x with
    | p r => simp only [rnm, rap]; rw [ih n R h]
    | d =>
      rw [rwas] at h
      rw [rnm, ih (n + 1) R (by omega), List.drop_eq_getElem_cons (show n < R.length by omega), rap]
    | k =>
      rw [rwas] at h
      rw [rnm, rap_ds, if_pos (by omega), List.drop_eq_getElem_cons (show n < R.length by omega), rap, rap, ih 0 (R.drop (n + 1)) (by rw [List.length_drop]; omega), List.drop_zero]
/-- The least form is told by what comes of things with numbers. -/
def rmap {α β : Type} (f : α → β) : List (RU α) → List (RU β)
  | [] => []
  | .p r :: X => .p (f r) :: rmap f X
  | .k :: X => .k :: rmap f X
  | .d :: X => .d :: rmap f X
theorem rmap_was {α β : Type} (f : α → β) (X : List (RU α)) : rwas (rmap f X) = rwas X ∧ rlen (rmap f X) = rlen X := by
  induction X with
  | nil => exact ⟨rfl, rfl⟩
  | cons x X ih => cases x <;> simp [rmap, rwas, rlen, ih]
theorem rmap_ds {α β : Type} (f : α → β) (n : Nat) (X : List (RU α)) : rmap f (List.replicate n .d ++ X) = List.replicate n .d ++ rmap f X := by
  induction n with
  | zero => rfl
  | succ n ih => rw [List.replicate_succ, List.cons_append, rmap, ih]; rfl
theorem rmap_rnm {α β : Type} (f : α → β) (n : Nat) (X : List (RU α)) : rmap f (rnm n X) = rnm n (rmap f X) := by
  induction X generalizing n with
  | nil => have := rmap_ds f n []; simp only [List.append_nil] at this; simp only [rnm, this, rmap, List.append_nil]
  | cons x X ih => cases x <;> simp [rmap, rnm, rmap_ds, ih]
theorem rmap_rcm {α β : Type} (f : α → β) (X Y : List (RU α)) : rmap f (rcm X Y) = rcm (rmap f X) (rmap f Y) := by
  generalize hm : X.length + Y.length = m
  induction m using Nat.strongRecOn generalizing X Y with
  | _ m ih =>
    have step : ∀ (X' Y' : List (RU α)), X'.length + Y'.length < m → rmap f (rcm X' Y') = rcm (rmap f X') (rmap f Y') := fun X' Y' h1 => ih _ h1 X' Y' rfl
    clear ih
    match X, Y with
    | .d :: X, Y => have := step X Y (by simp at hm ⊢; omega); simp_all [rcm, rmap]
    | .p r :: X, .p s :: Y => have := step (.p r :: X) Y (by simp at hm ⊢; omega); simp_all [rcm, rmap]
    | .k :: X, .p s :: Y => have := step (.k :: X) Y (by simp at hm ⊢; omega); simp_all [rcm, rmap]
    | [], .p s :: Y => have := step [] Y (by simp at hm ⊢; omega); simp_all [rcm, rmap]
    | .p r :: X, .k :: Y => have := step X Y (by simp at hm ⊢; omega); simp_all [rcm, rmap]
    | .p r :: X, .d :: Y => have := step X Y (by simp at hm ⊢; omega); simp_all [rcm, rmap]
    | .k :: X, .k :: Y => have := step X Y (by simp at hm ⊢; omega); simp_all [rcm, rmap]
    | .k :: X, .d :: Y => have := step X Y (by simp at hm ⊢; omega); simp_all [rcm, rmap]
    | .p r :: X, [] => simp [rcm, rmap]
    | .k :: X, [] => simp [rcm, rmap]
    | [], .k :: Y => simp [rcm, rmap]
    | [], .d :: Y => simp [rcm, rmap]
    | [], [] => simp [rcm, rmap]
/-- Things with numbers. -/
def tags {α : Type} (a n : Nat) : List (α ⊕ Nat) := (List.range' a n).map .inr
theorem tags_len {α : Type} (a n : Nat) : (tags (α := α) a n).length = n := by simp [tags]
theorem tags_succ {α : Type} (a n : Nat) : tags (α := α) a (n + 1) = .inr a :: tags (a + 1) n := by simp [tags, List.range'_succ]
def rfm {α : Type} (n : Nat) : Nat → List (α ⊕ Nat) → List (RU α)
  | a, [] => List.replicate (n - a) .d
  | a, .inl r :: L => .p r :: rfm n a L
  | a, .inr i :: L => List.replicate (i - a) .d ++ .k :: rfm n (i + 1) L
theorem rnm_rfm {α : Type} (X : List (RU α)) (a c : Nat) : rnm c X = rfm (a + c + rwas X) a (rap (rmap .inl X) (tags (a + c) (rwas X))) := by
  induction X generalizing a c with
  | nil => simp [rnm, rwas, rmap, rap, rfm]
  | cons x X ih =>
    cases x with
    | p r => simp only [rnm, rwas, rmap, rap, rfm]; rw [ih a c]
    | d => rw [rnm, rwas, rmap, tags_succ, rap, ih a (c + 1)]; congr 1 <;> simp [Nat.add_assoc, Nat.add_comm]
    | k =>
      rw [rnm, rwas, rmap, tags_succ, rap, rfm, ih (a + c + 1) 0]
      congr 2
      · omega
      · congr 1; omega
/-- Whoever does the same to things with numbers has the same least form. -/
theorem rnm_eq {α : Type} {X Y : List (RU α)} (h : rwas X = rwas Y) (e : ∀ R : List (α ⊕ Nat), R.length = rwas X → rap (rmap .inl X) R = rap (rmap .inl Y) R) : rnm 0 X = rnm 0 Y := by
  rw [rnm_rfm X 0 0, rnm_rfm Y 0 0, ← h, e _ (tags_len _ _)]
/-- Three in one, in whichever order, alike. -/
theorem rcm_assoc {α : Type} {X Y Z : List (RU α)} (hy : rwas Y = rlen X) (hz : rwas Z = rlen Y) : rnm 0 (rcm (rnm 0 (rcm X Y)) Z) = rnm 0 (rcm X (rnm 0 (rcm Y Z))) := by
  have h1 := rcm_was hy
  have h2 := rcm_was hz
  have h3 := rnm_was 0 (rcm X Y)
  have h4 := rnm_was 0 (rcm Y Z)
  have h5 := rcm_was (X := rnm 0 (rcm X Y)) (Y := Z) (by omega)
  have h6 := rcm_was (X := X) (Y := rnm 0 (rcm Y Z)) (by omega)
  refine rnm_eq (by omega) fun R hR => ?_
  have m1 := fun W : List (RU α) => rmap_was (β := α ⊕ Nat) .inl W
  have key : ∀ (W : List (RU α)) (S : List (α ⊕ Nat)), rwas W = S.length → rap (rmap .inl (rnm 0 W)) S = rap (rmap .inl W) S := by
    intro W S h
    rw [rmap_rnm, rnm_rap 0 _ _ (by have := (m1 W).1; omega)]; rfl
  have b1 := m1 X; have b2 := m1 Y; have b3 := m1 Z
  have b4 := m1 (rnm 0 (rcm X Y)); have b5 := m1 (rnm 0 (rcm Y Z))
  have l1 := rap_len (X := rmap (Sum.inl (β := Nat)) X) (R := R) (by omega)
  rw [rmap_rcm, rcm_rap (by omega) (by omega), key _ _ (by omega), rmap_rcm, rcm_rap (by omega) (by omega), rmap_rcm, rcm_rap (by omega) (by omega), key _ _ (by omega), rmap_rcm, rcm_rap (by omega) (by omega)]
/-- What takes back. -/
def rinv {α : Type} : List (RU α) → List α → List (RU α)
  | .p _ :: X, R => .d :: rinv X R
  | .k :: X, _ :: R => .k :: rinv X R
  | .d :: X, r :: R => .p r :: rinv X R
  | _, _ => []
theorem rinv_rap {α : Type} {X : List (RU α)} {R : List α} (h : rwas X = R.length) : rap (rinv X R) (rap X R) = R ∧ rwas (rinv X R) = rlen X := by
  induction X generalizing R with
  | nil => cases R with
    | nil => simp [rinv, rap, rwas, rlen]
    | cons r R => simp [rwas] at h
  | cons x X ih =>
    cases x with
    | p r => have := ih (R := R) h; simp [rinv, rap, rwas, rlen, this]
    | k => cases R with
      | nil => simp [rwas] at h
      | cons r R => have := ih (R := R) (by simpa [rwas] using h); simp [rinv, rap, rwas, rlen, this]
    | d => cases R with
      | nil => simp [rwas] at h
      | cons r R => have := ih (R := R) (by simpa [rwas] using h); simp [rinv, rap, rwas, rlen, this]
/-- Which are kept. -/
def rmask {α : Type} : List (RU α) → List Bool
  | [] => []
  | .p _ :: X => rmask X
  | .k :: X => true :: rmask X
  | .d :: X => false :: rmask X
theorem rmask_len {α : Type} (X : List (RU α)) : (rmask X).length = rwas X := by
  induction X with
  | nil => rfl
  | cons x X ih => cases x <;> simp [rmask, rwas, ih]
/-- What all that is put weighs. -/
def rws {α : Type} (wt : α → Nat) : List (RU α) → Nat
  | [] => 0
  | .p r :: X => wt r + rws wt X
  | .k :: X => rws wt X
  | .d :: X => rws wt X
def wsum {α : Type} (wt : α → Nat) : List α → Nat
  | [] => 0
  | r :: R => wt r + wsum wt R
def mkw {α : Type} (wt : α → Nat) : List Bool → List α → Nat
  | b :: m, r :: R => (if b = true then wt r else 0) + mkw wt m R
  | _, _ => 0
theorem rap_weight {α : Type} (wt : α → Nat) {X : List (RU α)} {R : List α} (h : rwas X = R.length) : wsum wt (rap X R) = rws wt X + mkw wt (rmask X) R := by
  induction X generalizing R with
  | nil => cases R <;> simp [rap, wsum, rws, rmask, mkw]
  | cons x X ih =>
    cases x with
    | p r => have := ih (R := R) h; simp [rap, wsum, rws, rmask, this]; omega
    | k => cases R with
      | nil => simp [rwas] at h
      | cons r R => have := ih (R := R) (by simpa [rwas] using h); simp [rap, wsum, rws, rmask, mkw, this]; omega
    | d => cases R with
      | nil => simp [rwas] at h
      | cons r R => have := ih (R := R) (by simpa [rwas] using h); simp [rap, rws, rmask, mkw, this]
theorem rmask_rnm {α : Type} (n : Nat) (X : List (RU α)) : rmask (rnm n X) = List.replicate n false ++ rmask X := by
  have ds : ∀ (k : Nat) (Y : List (RU α)), rmask (List.replicate k .d ++ Y) = List.replicate k false ++ rmask Y := by
    intro k Y
    induction k with
    | zero => rfl
    | succ k ih => rw [List.replicate_succ, List.cons_append, rmask, ih]; rfl
  induction X generalizing n with
  | nil => have := ds n []; simp only [List.append_nil] at this; simp only [rnm, this, rmask, List.append_nil]
  | cons x X ih =>
    cases x with
    | p r => simp [rnm, rmask, ih]
    | k => simp [rnm, rmask, ih, ds]
    | d => simp only [rnm, rmask, ih]; rw [List.replicate_succ']; simp
theorem rws_rnm {α : Type} (wt : α → Nat) (n : Nat) (X : List (RU α)) : rws wt (rnm n X) = rws wt X := by
  have ds : ∀ (k : Nat) (Y : List (RU α)), rws wt (List.replicate k .d ++ Y) = rws wt Y := by
    intro k Y
    induction k with
    | zero => rfl
    | succ k ih => rw [List.replicate_succ, List.cons_append, rws, ih]
  induction X generalizing n with
  | nil => have := ds n []; simp only [List.append_nil] at this; simp only [rnm, this]
  | cons x X ih =>
    cases x with
    | p r => simp [rnm, rws, ih]
    | k => simp [rnm, rws, ih, ds]
    | d => simp only [rnm, rws, ih]
theorem rtr_mask {α : Type} (wt : α → Nat) {first : Bool} {Z Y : List (RU α)} (h : rwas Z = rwas Y) : rmask (rtr first Z Y) = rap (rmap (fun _ => true) Y) (rmask Z) ∧ rws wt (rtr first Z Y) = rws wt Z := by
  generalize hm : Z.length + Y.length = m
  induction m using Nat.strongRecOn generalizing Z Y with
  | _ m ih =>
    have step : ∀ (X' Y' : List (RU α)), X'.length + Y'.length < m → rwas X' = rwas Y' → rmask (rtr first X' Y') = rap (rmap (fun _ => true) Y') (rmask X') ∧ rws wt (rtr first X' Y') = rws wt X' := fun X' Y' h1 h2 => ih _ h1 h2 rfl
    clear ih
    match Z, Y with
    | [], [] => simp [rtr, rmask, rmap, rap, rws]
    | .p r :: X, [] => have := step X [] (by simp at hm ⊢; omega) h; simp_all [rtr, rmask, rmap, rap, rws]
    | [], .p r :: Y => have := step [] Y (by simp at hm ⊢; omega) h; simp_all [rtr, rmask, rmap, rap, rws]
    | .k :: X, [] => simp [rwas] at h
    | .d :: X, [] => simp [rwas] at h
    | [], .k :: X => simp [rwas] at h
    | [], .d :: X => simp [rwas] at h
    | .p r :: X, .p s :: Y =>
      cases first with
      | true => have := step X (.p s :: Y) (by simp at hm ⊢; omega) h; simp_all [rtr, rmask, rmap, rap, rws]
      | false => have := step (.p r :: X) Y (by simp at hm ⊢; omega) h; simp_all [rtr, rmask, rmap, rap, rws]
    | .p r :: X, .k :: Y => have := step X (.k :: Y) (by simp at hm ⊢; omega) h; simp_all [rtr, rmask, rmap, rws]
    | .p r :: X, .d :: Y => have := step X (.d :: Y) (by simp at hm ⊢; omega) h; simp_all [rtr, rmask, rmap, rws]
    | .k :: X, .p s :: Y => have := step (.k :: X) Y (by simp at hm ⊢; omega) h; simp_all [rtr, rmask, rmap, rap, rws]
    | .d :: X, .p s :: Y => have := step (.d :: X) Y (by simp at hm ⊢; omega) h; simp_all [rtr, rmask, rmap, rap, rws]
    | .k :: X, .k :: Y => have := step X Y (by simp at hm ⊢; omega) (by simpa [rwas] using h); simp_all [rtr, rmask, rmap, rap, rws]
    | .k :: X, .d :: Y => have := step X Y (by simp at hm ⊢; omega) (by simpa [rwas] using h); simp_all [rtr, rmask, rmap, rap, rws]
    | .d :: X, .k :: Y => have := step X Y (by simp at hm ⊢; omega) (by simpa [rwas] using h); simp_all [rtr, rmask, rmap, rap, rws]
    | .d :: X, .d :: Y => have := step X Y (by simp at hm ⊢; omega) (by simpa [rwas] using h); simp_all [rtr, rmask, rmap, rap, rws]
/-- A third one, over the one and then the other, or over both in one: as many come. -/
theorem rtr_along {α : Type} (wt : α → Nat) {first : Bool} {X Y Z : List (RU α)} {n : Nat} (hx : rwas X = n) (hy : rwas Y = rlen X) (hz : rwas Z = n) :
    rmask (rtr first (rnm 0 (rtr first Z X)) Y) = rmask (rtr first Z (rcm X Y)) ∧ rws wt (rtr first (rnm 0 (rtr first Z X)) Y) = rws wt (rtr first Z (rcm X Y)) := by
  have h1 := rtr_mask wt (first := first) (Z := Z) (Y := X) (by omega)
  have h2 := rmask_rnm 0 (rtr first Z X)
  have h3 := rws_rnm wt 0 (rtr first Z X)
  have c1 := rcm_was hy
  have mx := rmap_was (fun _ : α => true) X
  have my := rmap_was (fun _ : α => true) Y
  have hl : rwas (rtr first Z X) = rlen X := by
    rw [← rmask_len, h1.1, rap_len (by rw [rmask_len]; omega)]; exact mx.2
  have h4 := rnm_was 0 (rtr first Z X)
  have h5 := rtr_mask wt (first := first) (Z := rnm 0 (rtr first Z X)) (Y := Y) (by omega)
  have h6 := rtr_mask wt (first := first) (Z := Z) (Y := rcm X Y) (by omega)
  refine ⟨?_, by rw [h5.2, h6.2, h3, h1.2]⟩
  rw [h5.1, h2, h1.1, h6.1, rmap_rcm, rcm_rap (by rw [rmask_len]; omega) (by omega)]
  rfl
end Go.Proofs.YtgokmldngnmmhaaDoor
