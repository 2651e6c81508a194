/- Words for a world that has turned at given blocks alone. Over any program. -/
import Derived.Test.YtgokmldngnmmhaaDoorMShapeAlike3
import Derived.Test.YtgokmldngnmmhaaDoorMShapeAlike6
import Derived.OneCell
import Derived.Maps.AppendAt
namespace Go.Proofs.YtgokmldngnmmhaaDoor
open Go.RowKit
/-- Of the blocks that there were, those of S alone may have turned. -/
structure Only (S : Nat → Prop) (w w' : World) : Prop where
  os : w'.os = w.os
  tape : w'.tape = w.tape
  output : w'.output = w.output
  size : w.heap.size ≤ w'.heap.size
  block : ∀ k, k < w.heap.size → ¬ S k → w'.heap[k]? = w.heap[k]?
section
variable {S S' : Nat → Prop} {a b c w w' : World}
theorem Only.refl (S : Nat → Prop) (w : World) : Only S w w := ⟨rfl, rfl, rfl, Nat.le_refl _, fun _ _ _ => rfl⟩
theorem Only.trans (h : Only S a b) (k : Only S b c) : Only S a c :=
  ⟨k.os.trans h.os, k.tape.trans h.tape, k.output.trans h.output, Nat.le_trans h.size k.size, fun i hi hs => (k.block i (Nat.lt_of_lt_of_le hi h.size) hs).trans (h.block i hi hs)⟩
theorem Only.mono (h : Only S a b) (hs : ∀ k, k < a.heap.size → S k → S' k) : Only S' a b :=
  ⟨h.os, h.tape, h.output, h.size, fun i hi hn => h.block i hi (fun e => hn (hs i hi e))⟩
/-- What comes behind may also turn whatever is new. -/
theorem Only.step (h : Only S a b) (k : Only S' b c) (hs : ∀ i, i < a.heap.size → S' i → S i) : Only S a c :=
  ⟨k.os.trans h.os, k.tape.trans h.tape, k.output.trans h.output, Nat.le_trans h.size k.size, fun i hi hn => (k.block i (Nat.lt_of_lt_of_le hi h.size) (fun e => hn (hs i hi e))).trans (h.block i hi hn)⟩
theorem Only.alloc (h : Only S a b) (o : Obj) : Only S a (b.alloc o) :=
  ⟨h.os, h.tape, h.output, by have := h.size; simp; omega, fun i hi hn => (Below.heap_alloc b o i (Nat.lt_of_lt_of_le hi h.size)).trans (h.block i hi hn)⟩
theorem Only.setCell (h : Only S a b) {p : Addr} (hp : S p.block ∨ a.heap.size ≤ p.block) (u : Value) : Only S a (b.setCell p u) :=
  ⟨h.os, h.tape, h.output, by have := h.size; simp; omega, fun i hi hn => (Below.heap_setCell b p u i (fun e => by
    subst e
    rcases hp with hp | hp
    · exact hn hp
    · omega)).trans (h.block i hi hn)⟩
theorem Only.drew (h : Only S a b) : Only S a b.drew := ⟨h.os, h.tape, h.output, h.size, h.block⟩
theorem Only.drewN (n : Nat) (h : Only S a b) : Only S a (b.drewN n) := ⟨h.os, h.tape, h.output, h.size, h.block⟩
theorem Only.of_below (h : Below w.heap.size w w') : Only S w w' := ⟨h.os, h.tape, h.output, h.size, fun i hi _ => h.block i hi⟩
theorem Only.then_below (h : Only S a b) (k : Below b.heap.size b c) : Only S a c := h.trans (Only.of_below k)
theorem Only.of_grown {row : Option Nat} (h : w.grownBy w' row) : Only (fun k => some k = row) w w' := ⟨h.os, h.tape, h.output, h.size, h.block⟩
theorem Only.below {B : Nat} (h : Only S w w') (hB : B ≤ w.heap.size) (hs : ∀ k, k < B → ¬ S k) : Below B w w' := ⟨h.os, h.tape, h.output, h.size, fun i hi => h.block i (by omega) (hs i hi)⟩
end
section
variable {S : Nat → Prop} {w w' : World} {g : Nat} {t : TypeId} {cs : Array Value}
theorem Blk.only (h : Blk w g t cs) (ho : Only S w w') (hg : ¬ S g) : Blk w' g t cs := (ho.block g h.lt hg).trans h
theorem own_only {base : Nat} {e : TypeId} {size : Nat} {v : Value} {n : Nat} {xs : List Value} (h : w.ownsRow base e size v n xs) (ho : Only S w w') (hg : ∀ k, v.ownBlock = some k → ¬ S k) : w'.ownsRow base e size v n xs := by
  rcases h with ⟨h1, h | ⟨g, cap, cur, rfl, h3, hb, h4⟩⟩
  · exact ⟨h1, .inl h⟩
  · exact ⟨h1, .inr ⟨g, cap, cur, rfl, h3, (ho.block g (Array.getElem?_eq_some_iff.1 hb).1 (hg g rfl)).trans hb, h4⟩⟩
theorem own_form {base : Nat} {e : TypeId} {size : Nat} {v : Value} {n : Nat} {xs : List Value} (h : w.ownsRow base e size v n xs) : ∃ A c, v = .slice A n c := by
  rcases h with ⟨h1, ⟨rfl, rfl⟩ | ⟨g, cap, cur, rfl, _⟩⟩
  · exact ⟨none, 0, rfl⟩
  · exact ⟨_, _, rfl⟩
theorem own_mono {base base' : Nat} {e : TypeId} {size : Nat} {v : Value} {n : Nat} {xs : List Value} (h : w.ownsRow base e size v n xs) (hb : base' ≤ base) : w.ownsRow base' e size v n xs := by
  rcases h with ⟨h1, h | ⟨g, cap, cur, rfl, h3, hb', h4⟩⟩
  · exact ⟨h1, .inl h⟩
  · exact ⟨h1, .inr ⟨g, cap, cur, rfl, by omega, hb', h4⟩⟩
theorem Sl.only {size n : Nat} {v : Value} {xs : List Value} (h : Sl w size v n xs) (ho : Only S w w') (hg : ∀ A : Addr, ∀ c, v = .slice (some A) n c → 0 < n → ¬ S A.block) : Sl w' size v n xs := by
  obtain ⟨A, c, rfl, h2, h3, h4, h4', h5⟩ := h
  refine ⟨A, c, rfl, h2, h3, h4, h4', fun hn => ?_⟩
  obtain ⟨ad, rfl, hb1, hc⟩ := h5 hn
  refine ⟨ad, rfl, Nat.lt_of_lt_of_le hb1 ho.size, fun j u hu => ?_⟩
  rw [← hc j u hu]
  exact World.cell?_of_block (by rw [block_of_add]; exact ho.block _ hb1 (hg ad c rfl hn))
theorem Blk.put1 {x y : Value} (h : Blk w g t #[x]) : Blk (w.setCell ⟨g, 0, none⟩ y) g t #[y] := h.set_ 0 y
/-- A store into a variable of one cell: the world behind it under a name. -/
theorem Blk.set1 {F : World → Prop} {x y : Value} (h : Blk w g t #[x]) (k : ∀ w3, Blk w3 g t #[y] → Only (fun j => j = g) w w3 → w3.heap.size = w.heap.size → F w3) : F (w.setCell ⟨g, 0, none⟩ y) :=
  k _ (h.set_ 0 y) ((Only.refl (fun j => j = g) w).setCell (p := ⟨g, 0, none⟩) (.inl rfl) y) (by simp)
end
section
variable {P : Program} {ops : Array Oper} {Q : Exit → Act → World → Prop} {a : Act} {W : World} {rest : List Oper} {o : Oper} {s x : Operand} {t e : TypeId} {size bytes base n m : Nat} {v : Value} {xs : List Value}
/-- append(own, x, ..), as append_lit; and where the new row lies. -/
theorem append_lit' (E : El P t e size bytes) (cs : Array Value) (hown : W.ownsRow base e size v n xs) (hgd : o.guard = none)
    (ho : o.op = .call { callee := .builtin .append, args := #[s, x], argTypes := #[t, t] }) (hs : a.eval s = v) {H : Nat} (hx : a.eval x = .slice (some ⟨H, 0, none⟩) m m) (hH : W.heap.size = H)
    (hl : cs.size = m * size) (h1 : ∀ u ∈ cs.toList, u.oneCell' = true) (h63 : n + m ≤ maxLen) (hbytes : (n + m) * bytes ≤ 140737488355328) (hbase : base ≤ W.heap.size)
    (h : ∀ v' w', w'.ownsRow base e size v' (n + m) (xs ++ cs.toList) → Below base W w' → W.grownBy w' v.ownBlock → (∀ k, v'.ownBlock = some k → v.ownBlock = some k ∨ W.heap.size ≤ k) → wpList P ops Q rest (a.put o.dst v') w') : wpList P ops Q (o :: rest) a (W.alloc (.cells cs e)) := by
  subst hH
  obtain ⟨i, z, hi, hz, hsi, hby, hzs⟩ := E.hi
  refine wpList_append_own_at _ hgd s x t ho base e i z size bytes E.ht hi hz hsi hby hzs E.pos v n xs hs (hown.alloc _) ⟨W.heap.size, 0, none⟩ m m cs.toList hx (by simpa using hl) ?_ h1 h63 hbytes (by simp; omega) ?_
  · intro j u hu
    have : (⟨W.heap.size, 0, none⟩ : Addr).add j = ⟨W.heap.size, j, none⟩ := by unfold Addr.add; split <;> simp_all
    rw [this, World.cell?_alloc_new]
    simpa using hu
  · intro v' w' ho' hg _ hk
    have hlt := hown.lt
    have hg' : W.grownBy w' v.ownBlock := ⟨hg.os, hg.tape, hg.output, Nat.le_trans (by simp) hg.size, fun k hk hne => (hg.block k (by simp; omega) hne).trans (Below.heap_alloc W _ k hk)⟩
    refine h v' w' ho' ⟨hg'.os, hg'.tape, hg'.output, hg'.size, fun k hk => ?_⟩ hg' (fun k hk' => ?_)
    · exact hg'.block k (by omega) (fun e => by have := hlt k e.symm; omega)
    · rcases hk with hk | hk
      · exact .inl (hk ▸ hk')
      · rw [hk] at hk'
        have := Option.some.inj hk'
        simp at this
        exact .inr (by omega)
end
end Go.Proofs.YtgokmldngnmmhaaDoor
