/- A rope's tree, plainly: what add, take and find do to the row of chunks. -/
import Derived.Test.YtgokmldngnmmhaaRopeB
namespace Go.Proofs.Ytgokmldngnmmhaa
/-- Bytes of runes. -/
def bl (rs : List Int) : Nat := (U.encs rs).length
theorem cnt_b (rs : List Int) : (cnt rs).b = (bl rs : Int) := by rw [(cnt_in rs).2.1, U.off_full]; rfl
@[simp] theorem bl_nil : bl [] = 0 := rfl
@[simp] theorem bl_append (a b : List Int) : bl (a ++ b) = bl a + bl b := by unfold bl; rw [U.encs_append, List.length_append]
theorem bl_len (rs : List Int) : rs.length ≤ bl rs := by have := U.len_le_off rs; rwa [U.off_full] at this
theorem bl_pos {rs : List Int} (h : rs ≠ []) : 0 < bl rs := by
  have := bl_len rs
  have := List.length_pos_iff.2 h
  omega
namespace RT
def chunks (t : RT) : List (List Int) := t.nodes.map Prod.snd
@[simp] theorem chunks_nil : nil.chunks = [] := rfl
@[simp] theorem chunks_node (g : Nat) (rs : List Int) (l r : RT) : (node g rs l r).chunks = l.chunks ++ rs :: r.chunks := by simp [chunks]
theorem runes_chunks (t : RT) : t.runes = t.chunks.flatten := by rw [runes_nodes, chunks, List.flatMap_def]
theorem len_chunks (t : RT) : t.chunks.length = t.nodes.length := by simp [chunks]
theorem len_blocks (t : RT) : t.blocks.length = t.nodes.length := by simp [blocks]
def isNil : RT → Bool
  | nil => true
  | _ => false
theorem isNil_iff {t : RT} : t.isNil = true ↔ t = nil := by cases t <;> simp [isNil]
theorem chunks_lvl (g : Nat) (rs : List Int) (l r : RT) : (lvl g rs l r).chunks = l.chunks ++ rs :: r.chunks := by simp [chunks, nodes_lvl]
theorem blocks_lvl (g : Nat) (rs : List Int) (l r : RT) : (lvl g rs l r).blocks = l.blocks ++ g :: r.blocks := by simp [blocks, nodes_lvl]
def addT (x : RT) : RT → Nat → RT
  | nil, _ => x
  | node g rs l r, k => if k ≤ bl l.runes then lvl g rs (addT x l k) r else lvl g rs l (addT x r (k - bl l.runes - bl rs))
def first : RT → List Int
  | nil => []
  | node _ rs l _ => if l.isNil then rs else l.first
def takeT : RT → Nat → RT
  | nil, _ => nil
  | node g rs l r, k =>
    if k < bl l.runes then lvl g rs (takeT l k) r
    else if bl l.runes < k then lvl g rs l (takeT r (k - bl l.runes - bl rs))
    else if l.isNil then r else if r.isNil then l else lvl g r.first l (takeT r 0)
def findT : RT → Nat → Nat → List Int × Nat
  | nil, _, _ => ([], 0)
  | node _ rs l r, k, f => if k < f + bl l.runes then findT l k f else if k < f + bl l.runes + bl rs ∨ r.isNil = true then (rs, f + bl l.runes) else findT r k (f + bl l.runes + bl rs)
end RT
/-- No chunk is empty. -/
def Ne (cs : List (List Int)) : Prop := ∀ c ∈ cs, c ≠ []
theorem Ne.l {a b : List (List Int)} (h : Ne (a ++ b)) : Ne a := fun c hc => h c (List.mem_append_left _ hc)
theorem Ne.r {a b : List (List Int)} (h : Ne (a ++ b)) : Ne b := fun c hc => h c (List.mem_append_right _ hc)
theorem Ne.tl {c : List Int} {b : List (List Int)} (h : Ne (c :: b)) : Ne b := fun x hx => h x (List.mem_cons_of_mem _ hx)
theorem Ne.hd {c : List Int} {b : List (List Int)} (h : Ne (c :: b)) : c ≠ [] := h c (by simp)
theorem Ne.app {a b : List (List Int)} (h : Ne a) (k : Ne b) : Ne (a ++ b) := fun c hc => (List.mem_append.1 hc).elim (h c) (k c)
/-- Bytes of chunks. -/
def cb (cs : List (List Int)) : Nat := bl cs.flatten
@[simp] theorem cb_nil : cb [] = 0 := rfl
@[simp] theorem cb_append (a b : List (List Int)) : cb (a ++ b) = cb a + cb b := by simp [cb]
@[simp] theorem cb_cons (c : List Int) (b : List (List Int)) : cb (c :: b) = bl c + cb b := by simp [cb]
theorem cb_runes (t : RT) : cb t.chunks = bl t.runes := by rw [cb, RT.runes_chunks]
/-- Where a row made of two and one between is cut. -/
theorem split3 {α : Type} {l r a b : List α} {x : α} (h : l ++ x :: r = a ++ b) : (∃ c, l = a ++ c ∧ b = c ++ x :: r) ∨ (∃ c, a = l ++ x :: c ∧ r = c ++ b) := by
  rcases List.append_eq_append_iff.1 h with ⟨c, h1, h2⟩ | ⟨c, h1, h2⟩
  · cases c with
    | nil => exact .inl ⟨[], by simpa using h1.symm, by simpa using h2.symm⟩
    | cons y c =>
      simp only [List.cons_append, List.cons.injEq] at h2
      obtain ⟨rfl, h3⟩ := h2
      exact .inr ⟨c, h1, h3⟩
  · exact .inl ⟨c, h1, h2⟩
namespace RT
/-- A chunk is put where chunks meet. -/
theorem addT_nodes {x : RT} {t : RT} {k : Nat} {a b : List (Nat × List Int)} (hne : Ne t.chunks) (h : t.nodes = a ++ b) (hk : bl (a.flatMap Prod.snd) = k) : (addT x t k).nodes = a ++ x.nodes ++ b := by
  induction t generalizing k a b with
  | nil =>
    obtain ⟨rfl, rfl⟩ := List.append_eq_nil_iff.1 h.symm
    simp [addT]
  | node g rs l r ihl ihr =>
    simp only [nodes_node] at h
    simp only [chunks_node] at hne
    unfold addT
    rcases split3 h with ⟨c, h1, rfl⟩ | ⟨c, rfl, h2⟩
    · have : k ≤ bl l.runes := by rw [runes_nodes, h1, List.flatMap_append, bl_append]; omega
      rw [if_pos this, nodes_lvl, ihl hne.l h1 hk]
      simp
    · have := bl_pos hne.r.hd
      have e : bl ((l.nodes ++ (g, rs) :: c).flatMap Prod.snd) = bl l.runes + (bl rs + bl (c.flatMap Prod.snd)) := by
        rw [List.flatMap_append, bl_append, ← runes_nodes, List.flatMap_cons, bl_append]
      rw [if_neg (by omega), nodes_lvl, ihr (a := c) hne.r.tl h2 (by omega)]
      simp
theorem takeT_sub (t : RT) (k : Nat) : (takeT t k).blocks.Sublist t.blocks := by
  induction t generalizing k with
  | nil => exact List.Sublist.refl _
  | node g rs l r ihl ihr =>
    unfold takeT
    rw [blocks_node]
    split
    · rw [blocks_lvl]; exact (ihl _).append_right _
    · split
      · rw [blocks_lvl]; exact ((ihr _).cons_cons _).append_left _
      · split
        · rename_i h; obtain rfl := isNil_iff.1 h; exact List.sublist_cons_self _ _
        · split
          · exact List.sublist_append_left _ _
          · rw [blocks_lvl]; exact ((ihr _).cons_cons _).append_left _
theorem first_chunks {t : RT} (h : t ≠ nil) : ∃ b, t.chunks = t.first :: b := by
  induction t with
  | nil => exact absurd rfl h
  | node g rs l r ihl ihr =>
    unfold first
    split
    · rename_i h1; obtain rfl := isNil_iff.1 h1; exact ⟨_, rfl⟩
    · rename_i h1
      obtain ⟨b, e⟩ := ihl (fun e => h1 (isNil_iff.2 e))
      exact ⟨b ++ rs :: r.chunks, by rw [chunks_node, e]; rfl⟩
/-- The chunk that begins at a place is taken out. -/
theorem takeT_chunks {t : RT} {k : Nat} {a b : List (List Int)} {c : List Int} (hne : Ne t.chunks) (h : t.chunks = a ++ c :: b) (hk : cb a = k) : (takeT t k).chunks = a ++ b := by
  induction t generalizing k a b c with
  | nil => simp at h
  | node g rs l r ihl ihr =>
    simp only [chunks_node] at h hne
    unfold takeT
    have hrs := bl_pos hne.r.hd
    rcases split3 h with ⟨d, h1, h2⟩ | ⟨d, rfl, h2⟩
    · cases d with
      | nil =>
        simp only [List.append_nil] at h1
        simp only [List.nil_append, List.cons.injEq] at h2
        obtain ⟨rfl, rfl⟩ := h2
        have e : bl l.runes = k := by rw [← cb_runes, h1]; exact hk
        rw [if_neg (by omega), if_neg (by omega)]
        split
        · rename_i h3; obtain rfl := isNil_iff.1 h3; simp at h1; subst h1; rfl
        · split
          · rename_i h3; obtain rfl := isNil_iff.1 h3; simp [h1]
          · rename_i h3
            obtain ⟨f, ef⟩ := first_chunks (t := r) (fun e => h3 (isNil_iff.2 e))
            rw [chunks_lvl, ihr (k := 0) (a := []) hne.r.tl ef rfl, h1, ef]; rfl
      | cons y d =>
        simp only [List.cons_append, List.cons.injEq] at h2
        obtain ⟨rfl, rfl⟩ := h2
        have hc : 0 < bl c := bl_pos (hne c (by rw [h1]; simp))
        have e : bl l.runes = k + (bl c + cb d) := by rw [← cb_runes, h1]; simp [hk]
        rw [if_pos (by omega), chunks_lvl, ihl hne.l h1 hk]
        simp
    · have e : cb (l.chunks ++ rs :: d) = bl l.runes + (bl rs + cb d) := by rw [cb_append, cb_cons, cb_runes]
      rw [if_neg (by omega), if_pos (by omega), chunks_lvl, ihr (a := d) hne.r.tl h2 (by omega)]
      simp
theorem findT_chunks {t : RT} {k f : Nat} (hne : Ne t.chunks) (ht : t ≠ nil) (hf : f ≤ k) : ∃ a c b, t.chunks = a ++ c :: b ∧ findT t k f = (c, f + cb a) ∧ f + cb a ≤ k ∧ (k < f + cb a + bl c ∨ b = []) := by
  induction t generalizing f with
  | nil => exact absurd rfl ht
  | node g rs l r ihl ihr =>
    simp only [chunks_node] at hne ⊢
    unfold findT
    split
    · rename_i h1
      have hl : l ≠ nil := by rintro rfl; simp at h1; omega
      obtain ⟨a, c, b, e1, e2, e3, e4⟩ := ihl hne.l hl hf
      refine ⟨a, c, b ++ rs :: r.chunks, by rw [e1]; simp, e2, e3, ?_⟩
      rcases e4 with e4 | rfl
      · exact .inl e4
      · left
        have := cb_runes l
        rw [e1] at this
        simp at this
        omega
    · split
      · rename_i h1 h2
        refine ⟨l.chunks, rs, r.chunks, rfl, by rw [cb_runes], by rw [cb_runes]; omega, ?_⟩
        rcases h2 with h2 | h2
        · left; rw [cb_runes]; exact h2
        · right; obtain rfl := isNil_iff.1 h2; rfl
      · rename_i h1 h2
        have hr : r ≠ nil := fun e => h2 (.inr (isNil_iff.2 e))
        obtain ⟨a, c, b, e1, e2, e3, e4⟩ := ihr hne.r.tl hr (f := f + bl l.runes + bl rs) (by omega)
        refine ⟨l.chunks ++ rs :: a, c, b, by rw [e1]; simp, ?_, ?_, ?_⟩
        · rw [e2, cb_append, cb_cons, cb_runes]; congr 1; omega
        · rw [cb_append, cb_cons, cb_runes]; omega
        · rw [cb_append, cb_cons, cb_runes]
          rcases e4 with e4 | e4
          · left; omega
          · exact .inr e4
end RT
end Go.Proofs.Ytgokmldngnmmhaa
