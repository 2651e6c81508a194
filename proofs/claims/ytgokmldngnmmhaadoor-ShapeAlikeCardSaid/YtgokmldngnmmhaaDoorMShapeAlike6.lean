/- Words for a world that has only grown: every block below a number is as it was. For regions that draw their order: what the loads read, shown anew behind each call and each new block. -/
import Derived.WalkKit
import Derived.Below
import Derived.Deep.Draws
namespace Go.Proofs.YtgokmldngnmmhaaDoor
open Go.RowKit
theorem undrew {w w' : World} (h : Below w.drew.heap.size w.drew w') : Below w.heap.size w w' := ⟨h.os, h.tape, h.output, h.size, h.block⟩
theorem bstep {w W w' : World} (h : Below w.heap.size w W) (hb : Below W.heap.size W w') : Below w.heap.size w w' := h.trans (hb.mono h.size)
theorem ex_alloc {w W : World} (h : Below w.heap.size w W) (o : Obj) : Below w.heap.size w (W.alloc o) := h.alloc h.size o
theorem ex_drew {w W : World} (h : Below w.heap.size w W) : Below w.heap.size w W.drew := h.drew
theorem ex_drewN {w W : World} (n : Nat) (h : Below w.heap.size w W) : Below w.heap.size w (W.drewN n) := ⟨h.os, h.tape, h.output, h.size, h.block⟩
/-- At a call: the world under a name of its own, that is known to have grown alone. -/
theorem calls_gen {P : Program} {f : FuncId} {args : Array Value} {w0 W : World} {K : Ending → World → Prop} (h : Below w0.heap.size w0 W) (k : ∀ W', Below w0.heap.size w0 W' → Calls P f args W' K) : Calls P f args W K := k W h
/-- What is read below N in w is what is read in W. -/
def Old (N : Nat) (W w : World) : Prop := ∀ b o, b < N → w.cell? ⟨b, o, none⟩ = W.cell? ⟨b, o, none⟩
theorem old_of {N : Nat} {W w : World} (h : Below N W w) : Old N W w := fun b o hb => h.cell (p := ⟨b, o, none⟩) hb
theorem bcell {W w1 : World} (hb : Below W.heap.size W w1) : (∀ b o, b < W.heap.size → w1.cell? ⟨b, o, none⟩ = W.cell? ⟨b, o, none⟩) ∧ (∀ b o, b < W.heap.size → w1.frozen? ⟨b, o, none⟩ = W.frozen? ⟨b, o, none⟩) :=
  ⟨fun b o h => hb.cell (p := ⟨b, o, none⟩) h, fun b o h => hb.frozen (p := ⟨b, o, none⟩) h⟩
theorem ext_start {N : Nat} {W : World} (hN : N = W.heap.size) : Below N W W.drew ∧ N ≤ W.drew.heap.size ∧ ∀ b o, b < N → W.drew.cell? ⟨b, o, none⟩ = W.cell? ⟨b, o, none⟩ :=
  ⟨(Below.refl _ _).drew, by simp [hN], fun _ _ _ => rfl⟩
theorem ext_call {N : Nat} {W w w' : World} (h : Below N W w ∧ N ≤ w.heap.size ∧ ∀ b o, b < N → w.cell? ⟨b, o, none⟩ = W.cell? ⟨b, o, none⟩) (hb : Below w.heap.size w w') :
    Below N W w' ∧ N ≤ w'.heap.size ∧ ∀ b o, b < N → w'.cell? ⟨b, o, none⟩ = W.cell? ⟨b, o, none⟩ := by
  have h2 : Below N W w' := h.1.trans (hb.mono h.2.1)
  exact ⟨h2, Nat.le_trans h.2.1 hb.size, old_of h2⟩
theorem ext_alloc {N : Nat} {W w : World} (o : Obj) (h : Below N W w ∧ N ≤ w.heap.size ∧ ∀ b o, b < N → w.cell? ⟨b, o, none⟩ = W.cell? ⟨b, o, none⟩) :
    Below N W (w.alloc o) ∧ N ≤ (w.alloc o).heap.size ∧ ∀ b o', b < N → (w.alloc o).cell? ⟨b, o', none⟩ = W.cell? ⟨b, o', none⟩ :=
  ext_call h ((Below.refl _ _).alloc (Nat.le_refl _) o)
end Go.Proofs.YtgokmldngnmmhaaDoor
