/- Several texts of the proof, one behind the other: ShAl, CompM, LaidL. -/
import Derived.Test.YtdgdajnbkfmijaaGreatDoorMRoomMeets42
import Derived.Test.YtdgdajnbkfmijaaGreatDoorMRoomMeets33
import Derived.Test.YtdgdajnbkfmijaaGreatDoorMRoomMeets38
import Derived.Test.YtdgdajnbkfmijaaGreatDoorMRoomMeets16
import Derived.Carry
import Derived.ChangeArms
import Derived.Deep.CutBlock
import Derived.Deep.CutRange
import Derived.Deep.Slices
import Derived.Laws.EntriesVeiled
import Derived.Laws.MakeOwn
import Derived.Lib.Bytealg
import Derived.Lib.ConvBytes
import Derived.Lib.QuietBelow
import Derived.Lib.SliceRun
import Derived.Lib.SlicesDelete
import Derived.Maps.OwnOps
import Derived.Maps.OwnSet
import Derived.OpenShut
import Derived.ProofKit
import Derived.Sort.CutIn
import Derived.Stop.RegionWithIn
import Derived.Test.YtdgdajnbkfmijaaGreatDoorMRoomMeets37
import Derived.Test.YtdgdajnbkfmijaaGreatDoorMRoomMeets30
import Derived.Test.YtdgdajnbkfmijaaGreatDoorRows
import Derived.Test.YtdgdajnbkfmijaaGreatDoorMRoomMeets17
import Derived.Test.YtdgdajnbkfmijaaGreatDoorMRoomMeets1
import Derived.ChangeSame
import Derived.ChangeVars
import Derived.JoinedOf
import Derived.RowKitTokens
import Derived.LaidLaws
import Derived.LaidHandle
import Derived.Stop.Joined
/- shape.Apply, in any unit, beside a turn into bytes. -/
namespace Go.Proofs.YtdgdajnbkfmijaaGreatDoor
open Go.RowKit
set_option maxRecDepth 100000
/-- .. and what is new of it. -/
def ShAlN (f : Nat) (u : Int) (R : List Int) (l : List PT) (w : World) (e : Ending) (w' : World) : Prop :=
  Only (fun k => k = f) w w' ∧ ((∃ k : Int, k ≠ 0 ∧ e = .returned (errno k) ∧ Below w.heap.size w w' ∧ ∀ o k', TnR R l u 1 o k' → k' = k) ∨
    (∃ O X, OpR O X R ∧ plen O = plen l ∧ O.length = l.length ∧ (∀ o k', TnR R l u 1 o k' → o = O ∧ k' = 0) ∧ TnR R l u 1 O 0 ∧
      ((8000 < bl (rap X R) ∧ e = .returned (errno 12) ∧ Below w.heap.size w w') ∨ (bl (rap X R) ≤ 8000 ∧ e = .returned .nilIface ∧ ShF w.heap.size w' f u (rap X R)))))
theorem shap_new {R : List Int} {l : List PT} {u : Int} {v2 : Value} {n2 f : Nat} {w : World} (hs : ShS w f u R) (hg : Hdl w) (hs2 : Sl w 3 v2 n2 (opv l)) (hpl : plen l ≤ 100000) (hn : n2 ≤ 100000) :
    Calls Tryz.prog 76 #[.pointer (some ⟨f, 0, none⟩), v2] w (ShAlN f u R l w) := by
  have hu := hs.u1
  have hp : ∀ p ∈ l, p.put.length ≤ 35184372087808 := fun p hp => by have := plen_mem' hp; omega
  by_cases hc : chk l ((cnt R).of u) = 0
  · have hpost : Calls Tryz.prog 76 #[.pointer (some ⟨f, 0, none⟩), v2] w (ShApPost f u R l w) := by
      have h3 : u = 1 ∨ u = 2 ∨ u = 3 := by omega
      rcases h3 with rfl | rfl | rfl
      · exact shap_B hs hg hs2 hpl hn hc
      · exact shap_H hs hg hs2 hpl hn hc
      · exact shap_R hs hg hs2 hpl hn hc
    refine hpost.mono ?_
    rintro e w' ⟨ho, -, h⟩
    refine ⟨ho, ?_⟩
    rcases h hc with ⟨h10, rfl, hs'⟩ | ⟨h0, X, hX, hh⟩
    · exact .inl ⟨10, by decide, rfl, hs', fun o k' ht => by rw [(ht.2.2 ⟨hu, by decide⟩ hc).1, h10]⟩
    · have T : TnR R l u 1 (tnF R u 1 Cn.zero 0 l).1 0 := ⟨fun h => absurd ⟨hu, by decide⟩ h, fun _ h => absurd hc h, fun _ _ => ⟨h0.symm, (if_pos rfl).symm⟩⟩
      obtain ⟨-, b, c, -⟩ := tnR_opr hu T
      exact .inr ⟨_, X, hX, b, c, fun o k' ht => ht.unique T, T, hh⟩
  · refine (shap_chk hs hg hs2 hp hc).mono ?_
    rintro e w' ⟨ho, h, -⟩
    obtain ⟨rfl, hs'⟩ := h hc
    exact ⟨ho, .inl ⟨_, hc, rfl, hs', fun o k' ht => (ht.2.1 ⟨hu, by decide⟩ hc).2⟩⟩
end Go.Proofs.YtdgdajnbkfmijaaGreatDoor
/- The reference's Compose in plain Lean: its cells. -/
namespace Go.Proofs.YtdgdajnbkfmijaaGreatDoor
open Go.RowKit
/-- A cell in memory. -/
abbrev Cl.cells (x : Cl) : List Value := [.int .i64 x.from_, .int .u8 (x.c.toNat : Int)]
def clv (l : List Cl) : List Value := l.flatMap Cl.cells
theorem clv_length (l : List Cl) : (clv l).length = l.length * 2 := by
  unfold clv
  induction l with
  | nil => rfl
  | cons p l ih => rw [List.flatMap_cons, List.length_append, ih]; simp; omega
theorem clv_append (a b : List Cl) : clv (a ++ b) = clv a ++ clv b := by unfold clv; rw [List.flatMap_append]
theorem clv_at {l : List Cl} {k : Nat} (hk : k < l.length) : (clv l)[2 * k]? = some (.int .i64 l[k].from_) ∧ (clv l)[2 * k + 1]? = some (.int .u8 (l[k].c.toNat : Int)) := by
  induction l generalizing k with
  | nil => simp at hk
  | cons p l ih =>
    have e : clv (p :: l) = p.cells ++ clv l := by simp [clv]
    rw [e]
    cases k with
    | zero => simp [Cl.cells]
    | succ k =>
      have hl : k < l.length := by simpa using hk
      obtain ⟨h1, h2⟩ := ih hl
      rw [show 2 * (k + 1) = 2 + 2 * k from by omega]
      simp only [Cl.cells, List.getElem_cons_succ]
      refine ⟨?_, ?_⟩
      · rw [List.getElem?_append_right (by simp)]; simpa using h1
      · rw [List.getElem?_append_right (by simp; omega)]; rw [← h2]; congr 1; simp; omega
/-- Element k of a slice of cells. -/
theorem Sl.cl {w : World} {l : List Cl} {v : Value} {n : Nat} (h : Sl w 2 v n (clv l)) {k : Nat} (hk : k < n) (hl : k < l.length) : ∃ b o c, v = .slice (some ⟨b, o, none⟩) n c ∧ b < w.heap.size ∧ w.cell? ⟨b, o + k * 2, none⟩ = some (.int .i64 l[k].from_) ∧ w.cell? ⟨b, o + k * 2 + 1, none⟩ = some (.int .u8 (l[k].c.toNat : Int)) := by
  obtain ⟨A, c, rfl, h2, _, _, _, h5⟩ := h
  obtain ⟨ad, rfl, hb, hc⟩ := h5 (by omega)
  obtain ⟨h1, h2⟩ := clv_at hl
  have c1 := hc _ _ h1
  have c2 := hc _ _ h2
  obtain ⟨b, o, p⟩ := ad
  have hp : p = none := by
    have hz := hc 0 (.int .i64 (l[0]'(by omega)).from_) (by have := (clv_at (l := l) (k := 0) (by omega)).1; simpa using this)
    have : (⟨b, o, p⟩ : Addr).add 0 = ⟨b, o, p⟩ := by unfold Addr.add; rfl
    rw [this] at hz
    cases p with
    | none => rfl
    | some x => unfold World.cell? at hz; split at hz <;> simp at hz
  subst hp
  simp only [add_mk] at c1 c2
  rw [Nat.mul_comm 2 k] at c1 c2
  exact ⟨b, o, c, rfl, hb, c1, by rw [← c2, Nat.add_assoc]⟩
/-- A part of a slice of cells. -/
theorem Sl.sub {w : World} {l : List Cl} {b o n c i m : Nat} (h : Sl w 2 (.slice (some ⟨b, o, none⟩) n c) n (clv l)) (him : i + m ≤ n) :
    (i = c → Sl w 2 (.slice (some ⟨b, o, none⟩) 0 0) 0 (clv ((l.drop i).take m)) ∧ m = 0) ∧ Sl w 2 (.slice (some ⟨b, o + i * 2, none⟩) m (c - i)) m (clv ((l.drop i).take m)) := by
  obtain ⟨A, c', hv, h2, h3, h4, h4', h5⟩ := h
  cases hv
  have hln : l.length = n := by rw [clv_length] at h2; omega
  have hlm : (clv ((l.drop i).take m)).length = m * 2 := by rw [clv_length, List.length_take, List.length_drop]; omega
  refine ⟨fun hi => ?_, ?_⟩
  · have hm : m = 0 := by omega
    subst hm
    exact ⟨⟨_, _, rfl, hlm, Nat.le_refl _, by unfold maxLen; omega, (fun h => nomatch h), fun h => absurd h (by omega)⟩, rfl⟩
  · refine ⟨_, _, rfl, hlm, by omega, by omega, (fun h => nomatch h), fun hm => ?_⟩
    obtain ⟨ad, had, hb, hc⟩ := h5 (by omega)
    cases had
    refine ⟨_, rfl, hb, fun j u hu => ?_⟩
    have hj : j < m * 2 := by
      rcases Nat.lt_or_ge j (m * 2) with h | h
      · exact h
      · rw [List.getElem?_eq_none (by omega)] at hu; cases hu
    have := hc (i * 2 + j) u (by
      have e : clv l = clv (l.take i) ++ (clv ((l.drop i).take m) ++ clv ((l.drop i).drop m)) := by
        rw [← clv_append, ← clv_append, List.take_append_drop, List.take_append_drop]
      rw [e, List.getElem?_append_right (by rw [clv_length, List.length_take]; omega), clv_length, List.length_take, show i * 2 + j - min i l.length * 2 = j from by omega, List.getElem?_append_left (by omega)]
      exact hu)
    rw [add_mk] at this ⊢
    rwa [Nat.add_assoc]
section
variable {P : Program} {ops : Array Oper} {Q : Exit → Act → World → Prop} {a : Act} {W : World} {rest : List Oper} {o : Oper} {s x : Operand} {t e : TypeId} {size bytes base n m : Nat} {v : Value} {xs : List Value}
/-- append(own, src...), as append_sl; and where the new row lies. -/
theorem append_sl' (E : El P t e size bytes) (ys : List Value) (u : Value) (hown : W.ownsRow base e size v n xs) (hsl : Sl W size u m ys) (hgd : o.guard = none)
    (ho : o.op = .call { callee := .builtin .append, args := #[s, x], argTypes := #[t, t] }) (hs : a.eval s = v) (hx : a.eval x = u)
    (h1 : ∀ u ∈ ys, u.oneCell' = true) (h63 : n + m ≤ maxLen) (hbytes : (n + m) * bytes ≤ 140737488355328) (hbase : base ≤ W.heap.size)
    (h : ∀ v' w', w'.ownsRow base e size v' (n + m) (xs ++ ys) → Below base W w' → W.grownBy w' v.ownBlock → (∀ k, v'.ownBlock = some k → v.ownBlock = some k ∨ W.heap.size ≤ k) → wpList P ops Q rest (a.put o.dst v') w') : wpList P ops Q (o :: rest) a W := by
  obtain ⟨i, z, hi, hz, hsi, hby, hzs⟩ := E.hi
  have hlt := hown.lt
  have fin : ∀ v' w', w'.ownsRow base e size v' (n + m) (xs ++ ys) → W.grownBy w' v.ownBlock → (∀ k, v'.ownBlock = some k → v.ownBlock = some k ∨ W.heap.size ≤ k) → wpList P ops Q rest (a.put o.dst v') w' := fun v' w' ho' hg' hk => by
    refine h v' w' ho' ⟨hg'.os, hg'.tape, hg'.output, hg'.size, fun k hk => ?_⟩ hg' hk
    exact hg'.block k (by omega) (fun e => by have := hlt k e.symm; omega)
  obtain ⟨A, c, rfl, hl, _, _, h4, h5⟩ := hsl
  cases A with
  | none =>
    have hm : m = 0 := by
      rcases Nat.eq_zero_or_pos m with h | h
      · exact h
      · obtain ⟨ad, hh, _⟩ := h5 h
        cases hh
    subst hm
    obtain rfl := h4 rfl
    have hy : ys = [] := List.eq_nil_of_length_eq_zero (by simpa using hl)
    subst hy
    refine wpList_append_own_none hgd s x t ho base e i size E.ht hi v n xs hs hown hx ?_
    refine fin v W ?_ ⟨rfl, rfl, rfl, Nat.le_refl _, fun _ _ _ => rfl⟩ (fun k hk => .inl hk)
    simpa using hown
  | some ad =>
    refine wpList_append_own_at _ hgd s x t ho base e i z size bytes E.ht hi hz hsi hby hzs E.pos v n xs hs hown ad m c ys hx hl ?_ h1 h63 hbytes hbase ?_
    · intro j u hu
      have hj : j < ys.length := by
        rcases Nat.lt_or_ge j ys.length with h | h
        · exact h
        · rw [List.getElem?_eq_none h] at hu; cases hu
      have hm : 0 < m := by
        rcases Nat.eq_zero_or_pos m with h | h
        · subst h; simp at hl; subst hl; simp at hj
        · exact h
      obtain ⟨ad', e', _, hc⟩ := h5 hm
      cases e'
      exact hc j u hu
    · intro v' w' ho' hg' _ hk
      refine fin v' w' ho' hg' (fun k hk' => ?_)
      rcases hk with hk | hk
      · exact .inl (hk ▸ hk')
      · rw [hk] at hk'
        have := Option.some.inj hk'
        exact .inr (by omega)
end
end Go.Proofs.YtdgdajnbkfmijaaGreatDoor
/- The condition on errors.errorType: from the hypothesis to the variable's cell, and a world that meets it. -/
namespace Go.Proofs.YtdgdajnbkfmijaaGreatDoor
open Go.ChangeShapes Go.WideShapes Go.ChangeAt Go.RowKit
theorem ownK : ownKnob Tryz.prog.godebug = none := by kernel_rfl
theorem laidOut : laidOutB Tryz.prog = true := by kernel_rfl
theorem laid_et : Tryz.prog.globalNamed "errors.errorType" = some 0 := by kernel_rfl
theorem laid_rt : (Tryz.prog.cutTypes.find? (·.1 == "internal/reflectlite.rtype")).map (·.2) = some 270 := by kernel_rfl
theorem laid_row : ((List.range Tryz.prog.types.size).filter fun t => Tryz.prog.rowNamed t [101, 114, 114, 111, 114]) = [25] := by kernel_rfl
theorem hdl_of_laid {W : World} (h : laidMetH Tryz.prog [("errors.errorType", Rows.laid_errors_errorType)] W) : Hdl W := by
  have h' : laidMet Tryz.prog [] W ∧ handlesMet Tryz.prog [("errors.errorType", Rows.laid_errors_errorType)] W := h
  obtain ⟨name, u, ty, e1, e2, e3, e4, e5⟩ := h'.2 _ (List.mem_singleton.2 rfl)
  have en : name = [101, 114, 114, 111, 114] := (Option.some.inj e1).symm
  subst en
  obtain rfl := Option.some.inj (laid_rt.symm.trans e2)
  have hm : ty ∈ (List.range Tryz.prog.types.size).filter fun t => Tryz.prog.rowNamed t [101, 114, 114, 111, 114] := List.mem_filter.2 ⟨List.mem_range.2 e3, e4⟩
  rw [laid_row] at hm
  obtain rfl := List.mem_singleton.1 hm
  have hh : typeHandle Tryz.prog 25 = .pointer (some ⟨2, 25, none⟩) := by kernel_rfl
  rw [hh] at e5
  have := World.var?_cell laid_et e5 0
  unfold Hdl
  simpa using this
/-- A world that meets the condition. -/
noncomputable def laidWorld (os : Os) : World :=
  let w0 := World.holding Tryz.prog os ⟨#[], #[], []⟩
  { w0 with heap := w0.heap.modify 0 fun
      | .cells _ t frozen => .cells #[.iface 270 (.agg #[.pointer (some ⟨2, 25, none⟩)])] t frozen
      | o => o }
theorem laidWorld_met (os : Os) (args : Array Value) : laidMetH Tryz.prog [("errors.errorType", Rows.laid_errors_errorType)] ((laidWorld os).forCall (fun _ _ => 0) ⟨#[], args, []⟩).memory :=
  laidMetH_of_parts (laidMet_nil _ _) (by kernel_rfl)
end Go.Proofs.YtdgdajnbkfmijaaGreatDoor
