/- A rope's tree is as low as it must be. Plain. -/
import Derived.Test.YtgokmldngnmmhaaRopeP
namespace Go.Proofs.Ytgokmldngnmmhaa
namespace RT
def Bal : RT → Prop
  | nil => True
  | node _ _ l r => l.high ≤ r.high + 1 ∧ r.high ≤ l.high + 1 ∧ Bal l ∧ Bal r
theorem lvl_bal {g : Nat} {rs : List Int} {l r : RT} (hl : Bal l) (hr : Bal r) (h1 : l.high ≤ r.high + 2) (h2 : r.high ≤ l.high + 2) :
    Bal (lvl g rs l r) ∧ max l.high r.high ≤ (lvl g rs l r).high ∧ (lvl g rs l r).high ≤ 1 + max l.high r.high ∧ (l.high ≤ r.high + 1 → r.high ≤ l.high + 1 → (lvl g rs l r).high = 1 + max l.high r.high) := by
  unfold lvl
  split
  · rename_i h
    cases l with
    | nil => simp at h
    | node gl rl a b =>
      obtain ⟨k1, k2, ka, kb⟩ := hl
      simp only [high_node] at h h1 h2 ⊢
      show _ ∧ _
      have e : (node gl rl a b).fixL = if a.high < b.high then rotL gl rl a b else node gl rl a b := rfl
      rw [e]
      split
      · cases b with
        | nil => rename_i h3; simp at h3
        | node gb rb c d =>
          obtain ⟨m1, m2, kc, kd⟩ := kb
          simp only [high_node] at *
          simp only [rotL, rotR, Bal, high_node]
          refine ⟨⟨?_, ?_, ⟨?_, ?_, ka, kc⟩, ⟨?_, ?_, kd, hr⟩⟩, ?_, ?_, ?_⟩ <;> omega
      · simp only [rotR, Bal, high_node]
        refine ⟨⟨?_, ?_, ka, ⟨?_, ?_, kb, hr⟩⟩, ?_, ?_, ?_⟩ <;> omega
  · split
    · rename_i h0 h
      cases r with
      | nil => simp at h
      | node gr rr a b =>
        obtain ⟨k1, k2, ka, kb⟩ := hr
        simp only [high_node] at h0 h h1 h2 ⊢
        have e : (node gr rr a b).fixR = if b.high < a.high then rotR gr rr a b else node gr rr a b := rfl
        rw [e]
        split
        · cases a with
          | nil => rename_i h3; simp at h3
          | node ga ra c d =>
            obtain ⟨m1, m2, kc, kd⟩ := ka
            simp only [high_node] at *
            simp only [rotL, rotR, Bal, high_node]
            refine ⟨⟨?_, ?_, ⟨?_, ?_, hl, kc⟩, ⟨?_, ?_, kd, kb⟩⟩, ?_, ?_, ?_⟩ <;> omega
        · simp only [rotL, Bal, high_node]
          refine ⟨⟨?_, ?_, ⟨?_, ?_, hl, ka⟩, kb⟩, ?_, ?_, ?_⟩ <;> omega
    · rename_i h0 h
      simp only [Bal, high_node]
      exact ⟨⟨by omega, by omega, hl, hr⟩, by omega, by omega, fun _ _ => trivial⟩
theorem addT_bal {x t : RT} (hx : Bal x) (hx1 : x.high = 1) (ht : Bal t) (k : Nat) : Bal (addT x t k) ∧ t.high ≤ (addT x t k).high ∧ (addT x t k).high ≤ t.high + 1 := by
  induction t generalizing k with
  | nil => exact ⟨hx, by simp, by simp [addT, hx1]⟩
  | node g rs l r ihl ihr =>
    obtain ⟨k1, k2, kl, kr⟩ := ht
    unfold addT
    rw [high_node]
    split
    · obtain ⟨b1, b2, b3⟩ := ihl kl k
      obtain ⟨c1, c2, c3, c4⟩ := lvl_bal (g := g) (rs := rs) b1 kr (by omega) (by omega)
      refine ⟨c1, ?_, by omega⟩
      by_cases h : (addT x l k).high ≤ r.high + 1
      · have := c4 h (by omega); omega
      · omega
    · obtain ⟨b1, b2, b3⟩ := ihr kr (k - bl l.runes - bl rs)
      obtain ⟨c1, c2, c3, c4⟩ := lvl_bal (g := g) (rs := rs) kl b1 (by omega) (by omega)
      refine ⟨c1, ?_, by omega⟩
      by_cases h : (addT x r (k - bl l.runes - bl rs)).high ≤ l.high + 1
      · have := c4 (by omega) h; omega
      · omega
theorem takeT_bal {t : RT} (ht : Bal t) (k : Nat) : Bal (takeT t k) ∧ t.high ≤ (takeT t k).high + 1 ∧ (takeT t k).high ≤ t.high := by
  induction t generalizing k with
  | nil => exact ⟨trivial, by simp [takeT], by simp [takeT]⟩
  | node g rs l r ihl ihr =>
    obtain ⟨k1, k2, kl, kr⟩ := ht
    have hR : ∀ (k : Nat) (rs : List Int), Bal (lvl g rs l (takeT r k)) ∧ 1 + max l.high r.high ≤ (lvl g rs l (takeT r k)).high + 1 ∧ (lvl g rs l (takeT r k)).high ≤ 1 + max l.high r.high := by
      intro k rs
      obtain ⟨b1, b2, b3⟩ := ihr kr k
      obtain ⟨c1, c2, c3, c4⟩ := lvl_bal (g := g) (rs := rs) kl b1 (by omega) (by omega)
      refine ⟨c1, ?_, by omega⟩
      by_cases h : l.high ≤ (takeT r k).high + 1
      · have := c4 h (by omega); omega
      · omega
    unfold takeT
    rw [high_node]
    split
    · obtain ⟨b1, b2, b3⟩ := ihl kl k
      obtain ⟨c1, c2, c3, c4⟩ := lvl_bal (g := g) (rs := rs) b1 kr (by omega) (by omega)
      refine ⟨c1, ?_, by omega⟩
      by_cases h : r.high ≤ (takeT l k).high + 1
      · have := c4 (by omega) h; omega
      · omega
    · split
      · exact hR _ _
      · split
        · rename_i h; obtain rfl := isNil_iff.1 h; exact ⟨kr, by simp; omega, by simp⟩
        · split
          · rename_i h; obtain rfl := isNil_iff.1 h; exact ⟨kl, by simp; omega, by simp⟩
          · exact hR _ _
theorem bal_nodes {t : RT} (h : Bal t) : 2 ^ (t.high / 2) ≤ t.nodes.length + 1 := by
  suffices hh : ∀ n (t : RT), Bal t → n ≤ t.high → 2 ^ (n / 2) ≤ t.nodes.length + 1 from hh _ t h (Nat.le_refl _)
  intro n
  induction n using Nat.strongRecOn with
  | _ n ih =>
    intro t h hn
    by_cases h2 : n < 2
    · have : n / 2 = 0 := by omega
      rw [this]; simp
    · cases t with
      | nil => simp at hn; omega
      | node g rs l r =>
        obtain ⟨k1, k2, kl, kr⟩ := h
        simp only [high_node] at hn
        have a := ih (n - 2) (by omega) l kl (by omega)
        have b := ih (n - 2) (by omega) r kr (by omega)
        have e : n / 2 = (n - 2) / 2 + 1 := by omega
        rw [e, Nat.pow_succ, nodes_node, List.length_append, List.length_cons]
        omega
end RT
end Go.Proofs.Ytgokmldngnmmhaa
