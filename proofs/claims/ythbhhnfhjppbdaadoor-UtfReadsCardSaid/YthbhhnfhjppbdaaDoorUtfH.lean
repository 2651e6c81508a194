/- Plain facts about UTF-16: the halves of runes, and back. No program in sight. -/
import Derived.Test.YthbhhnfhjppbdaaDoorUtfS
namespace Go.Proofs.YthbhhnfhjppbdaaDoor
namespace U
def hv (r : Int) : List Int := if r < 65536 then [r] else [55296 + (r - 65536) / 1024, 56320 + (r - 65536) % 1024]
def hvs (rs : List Int) : List Int := rs.flatMap hv
theorem hvs_nil : hvs [] = [] := rfl
theorem hvs_cons (r : Int) (rs : List Int) : hvs (r :: rs) = hv r ++ hvs rs := by simp [hvs]
theorem hvs_append (a b : List Int) : hvs (a ++ b) = hvs a ++ hvs b := by simp [hvs]
def hwid (r : Int) : Nat := if r < 65536 then 1 else 2
theorem hv_length (r : Int) : (hv r).length = hwid r := by unfold hv hwid; split <;> rfl
theorem hwid_pos (r : Int) : 0 < hwid r := by unfold hwid; split <;> omega
theorem hwid_le (r : Int) : hwid r ≤ 2 := by unfold hwid; split <;> omega
theorem hvs_len_le (rs : List Int) : (hvs rs).length ≤ 2 * rs.length := by
  induction rs with
  | nil => simp [hvs_nil]
  | cons r rs ih =>
    rw [hvs_cons, List.length_append, hv_length, List.length_cons]
    have := hwid_le r
    omega
theorem encs_le_hvs (rs : List Int) : (encs rs).length ≤ 4 * (hvs rs).length := by
  induction rs with
  | nil => simp [hvs_nil, encs_nil]
  | cons r rs ih =>
    rw [hvs_cons, encs_cons, List.length_append, List.length_append, enc_length, hv_length]
    have := wid_le r
    have := hwid_pos r
    omega
/-- Is l's beginning no whole rune? -/
def BadH (l : List Int) : Prop := match l with
  | [] => True
  | [a] => 55296 ≤ a ∧ a < 57344
  | a :: b :: _ => 55296 ≤ a ∧ a < 57344 ∧ (56320 ≤ a ∨ b < 56320 ∨ 57344 ≤ b)
structure Hp (l pre rest : List Int) : Prop where
  all : AllR pre
  eq : l = hvs pre ++ rest
  bad : BadH rest
def InH (l : List Int) : Prop := ∀ a ∈ l, 0 ≤ a ∧ a < 65536
theorem hp_exists (l : List Int) (hl : InH l) : ∃ pre rest, Hp l pre rest := by
  generalize hn : l.length = n
  induction n using Nat.strongRecOn generalizing l with
  | _ n ih =>
    match l, hl, hn with
    | [], _, _ => exact ⟨[], [], fun r hr => by simp at hr, rfl, trivial⟩
    | a :: t, hl, hn =>
      have ha := hl a List.mem_cons_self
      by_cases h1 : 55296 ≤ a ∧ a < 57344
      · match t, hl, hn with
        | [], _, _ => exact ⟨[], [a], fun r hr => by simp at hr, rfl, h1⟩
        | b :: t, hl, hn =>
          have hb := hl b (by simp)
          by_cases h2 : 56320 ≤ a ∨ b < 56320 ∨ 57344 ≤ b
          · exact ⟨[], a :: b :: t, fun r hr => by simp at hr, rfl, h1.1, h1.2, h2⟩
          · obtain ⟨pre, rest, g1, g2, g3⟩ := ih t.length (by simp at hn; omega) t (fun x hx => hl x (by simp [hx])) rfl
            refine ⟨(65536 + (a - 55296) * 1024 + (b - 56320)) :: pre, rest, ?_, ?_, g3⟩
            · intro x hx
              rcases List.mem_cons.1 hx with rfl | hx
              · exact right_iff.2 (by omega)
              · exact g1 x hx
            · rw [hvs_cons, g2]
              unfold hv
              rw [if_neg (by omega)]
              have e1 : 55296 + (65536 + (a - 55296) * 1024 + (b - 56320) - 65536) / 1024 = a := by omega
              have e2 : 56320 + (65536 + (a - 55296) * 1024 + (b - 56320) - 65536) % 1024 = b := by omega
              rw [e1, e2]; rfl
      · obtain ⟨pre, rest, g1, g2, g3⟩ := ih t.length (by simp at hn; omega) t (fun x hx => hl x (by simp [hx])) rfl
        refine ⟨a :: pre, rest, ?_, ?_, g3⟩
        · intro x hx
          rcases List.mem_cons.1 hx with rfl | hx
          · exact right_iff.2 (by omega)
          · exact g1 x hx
        · rw [hvs_cons, g2]; unfold hv; rw [if_pos (by omega)]; rfl
def hoff (rs : List Int) (k : Nat) : Nat := (hvs (rs.take k)).length
theorem hoff_zero (rs : List Int) : hoff rs 0 = 0 := rfl
theorem hoff_succ {rs : List Int} {k : Nat} (h : k < rs.length) : hoff rs (k + 1) = hoff rs k + hwid rs[k] := by
  unfold hoff
  rw [List.take_succ_eq_append_getElem h, hvs_append, List.length_append, hvs_cons, hvs_nil, List.append_nil, hv_length]
theorem hoff_full (rs : List Int) : hoff rs rs.length = (hvs rs).length := by unfold hoff; rw [List.take_length]
theorem hvs_drop_hoff (rs : List Int) (k : Nat) (rest : List Int) : (hvs rs ++ rest).drop (hoff rs k) = hvs (rs.drop k) ++ rest := by
  have : hvs rs ++ rest = hvs (rs.take k) ++ (hvs (rs.drop k) ++ rest) := by rw [← List.append_assoc, ← hvs_append, List.take_append_drop]
  rw [this]; unfold hoff; rw [List.drop_left]
theorem hoff_lt {rs : List Int} {k : Nat} (h : k < rs.length) : hoff rs k < hoff rs rs.length := by
  have e : hoff rs rs.length = hoff rs k + (hvs (rs.drop k)).length := by
    rw [hoff_full, hoff, ← List.length_append, ← hvs_append, List.take_append_drop]
  rw [e, List.drop_eq_getElem_cons h, hvs_cons, List.length_append, hv_length]
  have := hwid_pos rs[k]
  omega
theorem hoff_le {rs : List Int} {k : Nat} (h : k ≤ rs.length) : hoff rs k ≤ hoff rs rs.length := by
  rcases Nat.lt_or_ge k rs.length with h1 | h1
  · exact Nat.le_of_lt (hoff_lt h1)
  · rw [show k = rs.length from Nat.le_antisymm h h1]; exact Nat.le_refl _
theorem hvs_in {rs : List Int} (h : AllR rs) : InH (hvs rs) := by
  induction rs with
  | nil => intro a ha; simp [hvs_nil] at ha
  | cons r rs ih =>
    intro a ha
    rw [hvs_cons, List.mem_append] at ha
    rcases ha with ha | ha
    · have hr := right_iff.1 (h r List.mem_cons_self)
      unfold hv at ha
      split at ha
      · simp at ha; omega
      · simp at ha; omega
    · exact ih (fun x hx => h x (List.mem_cons_of_mem _ hx)) a ha
variable {l pre rest : List Int}
theorem Hp.length (h : Hp l pre rest) : l.length = hoff pre pre.length + rest.length := by rw [h.eq, List.length_append, hoff_full]
/-- The half, or the two, of rune k. -/
theorem Hp.at_ (h : Hp l pre rest) {k : Nat} (hk : k < pre.length) (j : Nat) (hj : j < hwid pre[k]) : l[hoff pre k + j]? = (hv pre[k])[j]? := by
  have e : l.drop (hoff pre k) = hv pre[k] ++ (hvs (pre.drop (k + 1)) ++ rest) := by
    rw [h.eq, hvs_drop_hoff, List.drop_eq_getElem_cons hk, hvs_cons, List.append_assoc]
  have := congrArg (fun x => x[j]?) e
  simp only [List.getElem?_drop] at this
  rw [this, List.getElem?_append_left (by rw [hv_length]; exact hj)]
theorem Hp.end_ (h : Hp l pre rest) (j : Nat) : l[hoff pre pre.length + j]? = rest[j]? := by
  have e : l.drop (hoff pre pre.length) = rest := by
    rw [h.eq, hvs_drop_hoff, List.drop_length, hvs_nil, List.nil_append]
  have := congrArg (fun x => x[j]?) e
  simpa only [List.getElem?_drop] using this
end U
end Go.Proofs.YthbhhnfhjppbdaaDoor
