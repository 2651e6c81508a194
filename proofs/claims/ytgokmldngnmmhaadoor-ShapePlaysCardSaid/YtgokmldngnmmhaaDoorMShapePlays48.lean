/- shape.Apply, in any unit, beside a turn into bytes. -/
import Derived.Test.YtgokmldngnmmhaaDoorMShapePlays46
import Derived.Test.YtgokmldngnmmhaaDoorMShapePlays43
namespace Go.Proofs.YtgokmldngnmmhaaDoor
open Go.RowKit
set_option maxRecDepth 100000
def ShAll (f : Nat) (u : Int) (R : List Int) (l : List PT) (w : World) (e : Ending) (w' : World) : Prop :=
  Only (fun k => k = f) w w' ∧ ((∃ k : Int, k ≠ 0 ∧ e = .returned (errno k) ∧ ShS w' f u R ∧ ∀ o k', TnR R l u 1 o k' → k' = k) ∨
    (∃ O X, OpR O X R ∧ plen O = plen l ∧ O.length = l.length ∧ (∀ o k', TnR R l u 1 o k' → o = O ∧ k' = 0) ∧ TnR R l u 1 O 0 ∧
      ((8000 < bl (rap X R) ∧ e = .returned (errno 12) ∧ ShS w' f u R) ∨ (bl (rap X R) ≤ 8000 ∧ e = .returned .nilIface ∧ ShS w' f u (rap X R)))))
theorem shap_calls {R : List Int} {l : List PT} {u : Int} {v2 : Value} {n2 f : Nat} {w : World} (hs : ShS w f u R) (hg : Hdl w) (hs2 : Sl w 3 v2 n2 (opv l)) (hpl : plen l ≤ 100000) (hn : n2 ≤ 1000) :
    Calls Tryd.prog 35 #[.pointer (some ⟨f, 0, none⟩), v2] w (ShAll f u R l w) := by
  have hu := hs.u1
  have hp : ∀ p ∈ l, p.put.length ≤ 35184372087808 := fun p hp => by have := plen_mem' hp; omega
  by_cases hc : chk l ((cnt R).of u) = 0
  · have hpost : Calls Tryd.prog 35 #[.pointer (some ⟨f, 0, none⟩), v2] w (ShApPost f u R l w) := by
      have h3 : u = 1 ∨ u = 2 ∨ u = 3 := by omega
      rcases h3 with rfl | rfl | rfl
      · exact shap_B hs hg hs2 hpl hn hc
      · exact shap_H hs hg hs2 hpl hn hc
      · exact shap_R hs hg hs2 hpl hn hc
    refine hpost.mono ?_
    rintro e w' ⟨ho, -, h⟩
    refine ⟨ho, ?_⟩
    rcases h hc with ⟨h10, rfl, hs'⟩ | ⟨h0, X, hX, hh⟩
    · exact .inl ⟨10, by decide, rfl, hs', fun o k' ht => by rw [(ht.2.2 ⟨hu, by decide⟩ hc).1, h10]⟩
    · have T : TnR R l u 1 (tnF R u 1 Cn.zero 0 l).1 0 := ⟨fun h => absurd ⟨hu, by decide⟩ h, fun _ h => absurd hc h, fun _ _ => ⟨h0.symm, (if_pos rfl).symm⟩⟩
      obtain ⟨-, b, c, -⟩ := tnR_opr hu T
      exact .inr ⟨_, X, hX, b, c, fun o k' ht => ht.unique T, T, hh⟩
  · refine (shap_chk hs hg hs2 hp hc).mono ?_
    rintro e w' ⟨ho, h, -⟩
    obtain ⟨rfl, hs'⟩ := h hc
    exact ⟨ho, .inl ⟨_, hc, rfl, hs', fun o k' ht => (ht.2.1 ⟨hu, by decide⟩ hc).2⟩⟩
theorem plen_150 {l : List PT} (h : ∀ p ∈ l, p.put.length ≤ 150) : plen l ≤ 150 * l.length := by
  induction l with
  | nil => simp [plen]
  | cons p l ih =>
    have h1 := h p (by simp)
    have h2 := ih fun q hq => h q (by simp [hq])
    rw [plen, List.length_cons]
    omega
end Go.Proofs.YtgokmldngnmmhaaDoor
