/- Laws on slices, over any program: what a slice reads as; an append onto a row of the call's own. -/
import Derived.WalkKit
import Derived.Below
import Derived.Laws.AppendOwn
import Derived.Laws.OwnMore
import Derived.Deep.AppendLies
import Derived.OwnWalk
import Derived.Laws.AppendOwnNone
import Derived.Laws.BytesArg
namespace Go.Proofs.YtgokmldngnmmhaaDoor
open Go.RowKit
theorem block_of_add (a : Addr) (n : Nat) : (a.add n).block = a.block := by unfold Addr.add; split <;> rfl
theorem add_of_add (a : Addr) (i j : Nat) : (a.add i).add j = a.add (i + j) := by
  unfold Addr.add
  by_cases hi : i = 0 <;> by_cases hj : j = 0 <;> simp [hi, hj, Nat.add_assoc]
theorem addr_succ (a : Addr) (k : Nat) : a.add (k + 1) = ⟨a.block, a.off + (k + 1), none⟩ := by simp [Addr.add]
/-- The slice value v has n elements of so many cells each, which read xs; nil is let in. -/
def Sl (w : World) (size : Nat) (v : Value) (n : Nat) (xs : List Value) : Prop :=
  ∃ A c, v = .slice A n c ∧ xs.length = n * size ∧ n ≤ c ∧ c ≤ maxLen ∧ (A = none → c = 0) ∧ (0 < n → ∃ ad, A = some ad ∧ ad.block < w.heap.size ∧ ∀ j u, xs[j]? = some u → w.cell? (ad.add j) = some u)
section
variable {w w' : World} {size n : Nat} {v : Value} {xs : List Value}
theorem Sl.len (h : Sl w size v n xs) : xs.length = n * size := by obtain ⟨_, _, _, h, _⟩ := h; exact h
theorem Sl.le (h : Sl w size v n xs) : n ≤ maxLen := by obtain ⟨_, c, _, _, h1, h2, _, _⟩ := h; omega
theorem Sl.below (h : Sl w size v n xs) (hb : Below w.heap.size w w') : Sl w' size v n xs := by
  obtain ⟨A, c, h1, h2, h3, h4, h4', h5⟩ := h
  refine ⟨A, c, h1, h2, h3, h4, h4', fun hn => ?_⟩
  obtain ⟨ad, e, hb1, hc⟩ := h5 hn
  exact ⟨ad, e, Nat.lt_of_lt_of_le hb1 hb.size, fun j u hu => (hb.cell (p := ad.add j) (by rw [block_of_add]; exact hb1)).trans (hc j u hu)⟩
theorem Sl.nil (w : World) (size : Nat) : Sl w size (.slice none 0 0) 0 [] := ⟨none, 0, rfl, by simp, by omega, by unfold maxLen; omega, fun _ => rfl, fun h => absurd h (by omega)⟩
theorem Sl.of_own {base : Nat} {e : TypeId} (h : w.ownsRow base e size v n xs) : Sl w size v n xs := by
  rcases h.2 with ⟨rfl, rfl⟩ | ⟨g, cap, cur, rfl, hb, hg, hn, hc, _⟩
  · exact ⟨none, 0, rfl, h.1, by omega, by unfold maxLen; omega, fun _ => rfl, fun h => absurd h (by omega)⟩
  · refine ⟨some ⟨g, 0, none⟩, cap, rfl, h.1, hn, hc, (fun h => nomatch h), fun _ => ⟨⟨g, 0, none⟩, rfl, (Array.getElem?_eq_some_iff.1 hg).1, h.cells rfl⟩⟩
/-- Element k, of one cell. -/
theorem Sl.at_ (h : Sl w 1 v n xs) {k : Nat} (hk : k < n) : ∃ ad c u, v = .slice (some ad) n c ∧ ad.block < w.heap.size ∧ xs[k]? = some u ∧ w.cell? (ad.add k) = some u := by
  obtain ⟨A, c, rfl, h2, _, _, _, h5⟩ := h
  obtain ⟨ad, rfl, hb, hc⟩ := h5 (by omega)
  have hl : k < xs.length := by omega
  exact ⟨ad, c, xs[k], rfl, hb, List.getElem?_eq_getElem hl, hc k _ (List.getElem?_eq_getElem hl)⟩
end
theorem one1 {a : Value} (ha : a.oneCell' = true) : ∀ u ∈ (#[a] : Array Value).toList, u.oneCell' = true := by
  intro u hu
  simp at hu
  subst hu; exact ha
theorem one2 {a b : Value} (ha : a.oneCell' = true) (hb : b.oneCell' = true) : ∀ u ∈ (#[a, b] : Array Value).toList, u.oneCell' = true := by
  intro u hu
  simp at hu
  rcases hu with rfl | rfl
  · exact ha
  · exact hb
theorem one3 {a b c : Value} (ha : a.oneCell' = true) (hb : b.oneCell' = true) (hc : c.oneCell' = true) : ∀ u ∈ (#[a, b, c] : Array Value).toList, u.oneCell' = true := by
  intro u hu
  simp at hu
  rcases hu with rfl | rfl | rfl
  · exact ha
  · exact hb
  · exact hc
theorem one4 {a b c d : Value} (ha : a.oneCell' = true) (hb : b.oneCell' = true) (hc : c.oneCell' = true) (hd : d.oneCell' = true) : ∀ u ∈ (#[a, b, c, d] : Array Value).toList, u.oneCell' = true := by
  intro u hu
  simp at hu
  rcases hu with rfl | rfl | rfl | rfl
  · exact ha
  · exact hb
  · exact hc
  · exact hd
/-- What an append wants to know of a slice's type. -/
structure El (P : Program) (t e : TypeId) (size bytes : Nat) : Prop where
  ht : P.underlying t = some (.slice e)
  hi : ∃ i z, P.info? e = some i ∧ i.zero = some z ∧ i.size = size ∧ i.bytes = bytes ∧ z.cells.size = size
  pos : 0 < size
theorem El.mk' {P : Program} {t e : TypeId} {size bytes : Nat} (ht : P.underlying t = some (.slice e)) (h : (P.info? e).map (fun i => (i.zero.map fun z => z.cells.size, i.size, i.bytes)) = some (some size, size, bytes)) (hp : 0 < size) : El P t e size bytes := by
  refine ⟨ht, ?_, hp⟩
  cases hi : P.info? e with
  | none => rw [hi] at h; simp at h
  | some i =>
    rw [hi] at h
    simp only [Option.map_some, Option.some.injEq, Prod.mk.injEq] at h
    cases hz : i.zero with
    | none => rw [hz] at h; simp at h
    | some z =>
      rw [hz] at h
      simp only [Option.map_some, Option.some.injEq] at h
      exact ⟨i, z, rfl, hz, h.2.1, h.2.2, h.1⟩
section
variable {P : Program} {ops : Array Oper} {Q : Exit → Act → World → Prop} {a : Act} {W : World} {rest : List Oper} {o : Oper} {s x : Operand} {t e : TypeId} {size bytes base n m : Nat} {v : Value} {xs : List Value}
/-- append(own, x, ..): what was appended lies in the block that was made last. -/
theorem append_lit (E : El P t e size bytes) (cs : Array Value) (hown : W.ownsRow base e size v n xs) (hgd : o.guard = none)
    (ho : o.op = .call { callee := .builtin .append, args := #[s, x], argTypes := #[t, t] }) (hs : a.eval s = v) (hx : a.eval x = .slice (some ⟨W.heap.size, 0, none⟩) m m)
    (hl : cs.size = m * size) (h1 : ∀ u ∈ cs.toList, u.oneCell' = true) (h63 : n + m ≤ maxLen) (hbytes : (n + m) * bytes ≤ 140737488355328) (hbase : base ≤ W.heap.size)
    (h : ∀ v' w', w'.ownsRow base e size v' (n + m) (xs ++ cs.toList) → Below base W w' → W.grownBy w' v.ownBlock → wpList P ops Q rest (a.put o.dst v') w') : wpList P ops Q (o :: rest) a (W.alloc (.cells cs e)) := by
  obtain ⟨i, z, hi, hz, hsi, hby, hzs⟩ := E.hi
  refine wpList_append_own _ hgd s x t ho base e i z size bytes E.ht hi hz hsi hby hzs E.pos v n xs hs (hown.alloc _) ⟨W.heap.size, 0, none⟩ m m cs.toList hx (by simpa using hl) ?_ h1 h63 hbytes (by simp; omega) ?_
  · intro j u hu
    have : (⟨W.heap.size, 0, none⟩ : Addr).add j = ⟨W.heap.size, j, none⟩ := by unfold Addr.add; split <;> simp_all
    rw [this, World.cell?_alloc_new]
    simpa using hu
  · intro v' w' ho' hg _
    have hlt := hown.lt
    have hg' : W.grownBy w' v.ownBlock := ⟨hg.os, hg.tape, hg.output, Nat.le_trans (by simp) hg.size, fun k hk hne => (hg.block k (by simp; omega) hne).trans (Below.heap_alloc W _ k hk)⟩
    refine h v' w' ho' ⟨hg'.os, hg'.tape, hg'.output, hg'.size, fun k hk => ?_⟩ hg'
    exact hg'.block k (by omega) (fun e => by have := hlt k e.symm; omega)
/-- append(own, src...) with src a slice that reads ys and is not of the row's own block. -/
theorem append_sl (E : El P t e size bytes) (ys : List Value) (u : Value) (hown : W.ownsRow base e size v n xs) (hsl : Sl W size u m ys) (hgd : o.guard = none)
    (ho : o.op = .call { callee := .builtin .append, args := #[s, x], argTypes := #[t, t] }) (hs : a.eval s = v) (hx : a.eval x = u)
    (h1 : ∀ u ∈ ys, u.oneCell' = true) (h63 : n + m ≤ maxLen) (hbytes : (n + m) * bytes ≤ 140737488355328) (hbase : base ≤ W.heap.size)
    (h : ∀ v' w', w'.ownsRow base e size v' (n + m) (xs ++ ys) → Below base W w' → W.grownBy w' v.ownBlock → wpList P ops Q rest (a.put o.dst v') w') : wpList P ops Q (o :: rest) a W := by
  obtain ⟨i, z, hi, hz, hsi, hby, hzs⟩ := E.hi
  have hlt := hown.lt
  have fin : ∀ v' w', w'.ownsRow base e size v' (n + m) (xs ++ ys) → W.grownBy w' v.ownBlock → wpList P ops Q rest (a.put o.dst v') w' := fun v' w' ho' hg' => by
    refine h v' w' ho' ⟨hg'.os, hg'.tape, hg'.output, hg'.size, fun k hk => ?_⟩ hg'
    exact hg'.block k (by omega) (fun e => by have := hlt k e.symm; omega)
  obtain ⟨A, c, rfl, hl, _, _, h4, h5⟩ := hsl
  cases A with
  | none =>
    have hm : m = 0 := by
      rcases Nat.eq_zero_or_pos m with h | h
      · exact h
      · obtain ⟨ad, hh, _⟩ := h5 h
        cases hh
    subst hm
    obtain rfl := h4 rfl
    have hy : ys = [] := List.eq_nil_of_length_eq_zero (by simpa using hl)
    subst hy
    refine wpList_append_own_none hgd s x t ho base e i size E.ht hi v n xs hs hown hx ?_
    refine fin v W ?_ ⟨rfl, rfl, rfl, Nat.le_refl _, fun _ _ _ => rfl⟩
    simpa using hown
  | some ad =>
    refine wpList_append_own _ hgd s x t ho base e i z size bytes E.ht hi hz hsi hby hzs E.pos v n xs hs hown ad m c ys hx hl ?_ h1 h63 hbytes hbase fun v' w' ho' hg' _ => fin v' w' ho' hg'
    intro j u hu
    have hj : j < ys.length := by
      rcases Nat.lt_or_ge j ys.length with h | h
      · exact h
      · rw [List.getElem?_eq_none h] at hu; cases hu
    have hm : 0 < m := by
      rcases Nat.eq_zero_or_pos m with h | h
      · subst h; simp at hl; subst hl; simp at hj
      · exact h
    obtain ⟨ad', e', _, hc⟩ := h5 hm
    cases e'
    exact hc j u hu
end
/-- string(b). -/
theorem conv_bytes {P : Program} {w : World} {v : Value} {n : Nat} {l : List UInt8} {src dst e : TypeId} (hs : P.underlying src = some (.slice e)) (he : P.underlying e = some (.int .u8)) (hd : P.underlying dst = some .string)
    (h : Sl w 1 v n (l.map fun c => .int .u8 (c.toNat : Int))) : (convert src dst v).run P w = .ok (.string ⟨l.toArray⟩) w := by
  obtain ⟨A, c, rfl, h2, _, _, h4, h5⟩ := h
  have hn : n = l.length := by simpa using h2.symm
  cases A with
  | none =>
    have hm : n = 0 := by
      rcases Nat.eq_zero_or_pos n with h | h
      · exact h
      · obtain ⟨ad, hh, _⟩ := h5 h
        cases hh
    have hl : l = [] := List.eq_nil_of_length_eq_zero (by omega)
    subst hl
    rw [run_convert_bytes_string w src dst e _ _ _ hs he hd]
    simp [Conv.bytesToString]
    rfl
  | some ad =>
    have hl : (loadCells ad n).run P w = .ok ((l.map fun c => (c.toNat : Int)).map (Value.int .u8)).toArray w := by
      have := run_loadCells_list (P := P) w ad (l.map fun c => Value.int .u8 (c.toNat : Int)) (fun j u hu => by
        have hj : j < (l.map fun c => Value.int .u8 (c.toNat : Int)).length := by
          rcases Nat.lt_or_ge j (l.map fun c => Value.int .u8 (c.toNat : Int)).length with h | h
          · exact h
          · rw [List.getElem?_eq_none h] at hu; cases hu
        obtain ⟨ad', e', _, hc⟩ := h5 (by simp at hj; omega)
        cases e'
        exact hc j u hu)
      rw [List.length_map, ← hn] at this
      rw [this, List.map_map]; rfl
    rw [run_convert_bytes_string w src dst e _ _ _ hs he hd, run_bytesToString w ad n c _ hl, foldl_push_bytes]
    congr 2
    rw [List.map_map]
    have : (l.map ((fun n : Int => UInt8.ofNat n.toNat) ∘ fun c : UInt8 => (c.toNat : Int))) = l := by
      conv => rhs; rw [← List.map_id l]
      apply List.map_congr_left
      intro c _
      simp
    rw [this]
    simp
/-- string([]byte{..}): the bytes lie in the block that was made last. -/
theorem conv_new {P : Program} {l : List UInt8} {src dst e : TypeId} (hs : P.underlying src = some (.slice e)) (he : P.underlying e = some (.int .u8)) (hd : P.underlying dst = some .string) (w : World) (cs : Array Value) (n : Nat)
    (hcs : (l.map fun c => Value.int .u8 (c.toNat : Int)) = cs.toList) (hn : n = l.length) (hm : n ≤ maxLen) :
    (convert src dst (.slice (some ⟨w.heap.size, 0, none⟩) n n)).run P (w.alloc (.cells cs e)) = .ok (.string ⟨l.toArray⟩) (w.alloc (.cells cs e)) := by
  refine conv_bytes hs he hd ⟨some ⟨w.heap.size, 0, none⟩, n, rfl, by simp [hn], Nat.le_refl _, hm, (fun h => nomatch h), fun _ => ⟨_, rfl, by simp, fun j u hu => ?_⟩⟩
  have : (⟨w.heap.size, 0, none⟩ : Addr).add j = ⟨w.heap.size, j, none⟩ := by unfold Addr.add; split <;> simp_all
  rw [this, World.cell?_alloc_new, ← Array.getElem?_toList, ← hcs]
  exact hu
theorem str_append (a b : List UInt8) : (ByteArray.mk a.toArray) ++ ⟨b.toArray⟩ = ⟨(a ++ b).toArray⟩ := by
  apply ByteArray.ext
  simp [ByteArray.data_append]
/-- A block that is known whole. -/
def Blk (w : World) (g : Nat) (t : TypeId) (cs : Array Value) : Prop := w.heap[g]? = some (.cells cs t (0, 0))
section
variable {w w' : World} {g : Nat} {t : TypeId} {cs : Array Value}
theorem Blk.lt (h : Blk w g t cs) : g < w.heap.size := (Array.getElem?_eq_some_iff.1 h).1
theorem Blk.cell (h : Blk w g t cs) (i : Nat) : w.cell? ⟨g, i, none⟩ = cs[i]? := cell_of_row w g i cs t (0, 0) h
theorem Blk.frozen (h : Blk w g t cs) (i : Nat) : w.frozen? ⟨g, i, none⟩ = false := by
  unfold Blk at h
  simp [World.frozen?, h]
theorem Blk.new (w : World) (t : TypeId) (cs : Array Value) : Blk (w.alloc (.cells cs t)) w.heap.size t cs := heap_alloc_new w _
theorem Blk.alloc (h : Blk w g t cs) (o : Obj) : Blk (w.alloc o) g t cs := (Below.heap_alloc w o g h.lt).trans h
theorem Blk.set_ (h : Blk w g t cs) (i : Nat) (u : Value) : Blk (w.setCell ⟨g, i, none⟩ u) g t (cs.setIfInBounds i u) := by
  unfold Blk at h ⊢
  simp [World.setCell, Array.getElem?_modify, h]
theorem Blk.far (h : Blk w g t cs) {p : Addr} (hp : g ≠ p.block) (u : Value) : Blk (w.setCell p u) g t cs := (Below.heap_setCell w p u g hp).trans h
theorem Blk.below {B : Nat} (h : Blk w g t cs) (hb : Below B w w') (hg : g < B) : Blk w' g t cs := (hb.block g hg).trans h
/-- The two stores of a struct of two into its variable. -/
theorem Blk.set2 {F : World → Prop} {a b x y : Value} (h : Blk w g t #[a, b])
    (k : ∀ w3, Blk w3 g t #[x, y] → (∀ B, B ≤ g → Below B w w3) → w3.heap.size = w.heap.size → (∀ g', g' ≠ g → w3.heap[g']? = w.heap[g']?) → F w3) :
    F ((w.setCell ⟨g, 0, none⟩ x).setCell ⟨g, 1, none⟩ y) := by
  refine k _ ((h.set_ 0 x).set_ 1 y) (fun B hB => ((Below.refl B w).setCell hB _).setCell hB _) (by simp) (fun g' hg => ?_)
  rw [Below.heap_setCell _ _ _ _ hg, Below.heap_setCell _ _ _ _ hg]
end
end Go.Proofs.YtgokmldngnmmhaaDoor
