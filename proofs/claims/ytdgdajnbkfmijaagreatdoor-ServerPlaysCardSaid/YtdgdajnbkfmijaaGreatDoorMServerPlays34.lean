/- Line. -/
import Derived.Test.YtdgdajnbkfmijaaGreatDoorMServerPlays33
import Derived.Sort.CutIn
import Derived.Stop.RegionWithIn
namespace Go.Proofs.YtdgdajnbkfmijaaGreatDoor
open Go.RowKit Go.Shelf Go.Sort
set_option maxRecDepth 100000
section
variable {n : Nat} {P : Program} {ops : Array Oper} {md : Region.Mode} {Q : Exit → Act → World → Prop} {l : Nat}
theorem oper_round {o : Oper} {a : Act} {K K' : Act → World → Prop} {w : World} (hnd : ∀ c, o.op ≠ .defer c) (h : ∀ a w, K a w → K' a w) (hh : o.wp P a w K Q) : o.wpIn (Fence.wide.inRound l) n P a w K' Q := by
  unfold Oper.wp at hh
  unfold Oper.wpIn
  refine ⟨fun _ _ => trivial, ?_⟩
  rw [Fence.inRound_round, Oper.semAt_some _ _ _ hnd]
  generalize (execOp a.eval o).run P w = r at *
  cases r with
  | ok x w' =>
    cases x <;> simp only [Oper.upon] at hh <;> simp only [Oper.uponIn]
    case value u => exact h _ _ hh
    case skip => exact h _ _ hh
    case defer d => exact h _ _ hh
    case enter f args =>
      refine ⟨fun hd => absurd hd (by simp [Fence.inRound, Fence.wide]), CallsIn.inRound l ((callsIn_wide.2 hh).mono ?_)⟩
      intro e w2 h2
      cases e <;> first | exact h _ _ h2 | exact h2
    case row row args => exact ⟨fun hd => absurd hd (by simp [Fence.inRound, Fence.wide]), fun c cs _ => let ⟨v, w2, r, s⟩ := hh c cs; ⟨v, w2, h _ _ r, stepsIn_wide.2 s⟩⟩
  | halt x w' =>
    cases x <;> simp only [Oper.upon] at hh <;> simp only [Oper.uponIn]
    all_goals first | exact hh | exact hh.elim
theorem round_any (hnd : ∀ (i : Nat) (o : Oper), ops[i]? = some o → ∀ c, o.op ≠ .defer c) (hno : ¬ LetsOut Q) :
    ∀ (fuel : Nat) (listed : Array Bool) (a : Act) (w : World), wpAny P md ops Q fuel listed a w → wpAnyIn (Fence.wide.inRound l) n P md ops Q fuel listed a w
  | 0, _, _, _, h => h
  | fuel + 1, listed, _, _, h => ⟨h.1, fun i hi => by
      have hh := h.2 i hi
      have ih := fun a' w' => round_any hnd hno fuel (listed.setIfInBounds i true) a' w'
      unfold wpOp at hh
      unfold wpOpIn
      split
      · rename_i ho; simp only [ho] at hh; exact ih _ _ hh
      · rename_i o ho
        simp only [ho] at hh
        split
        · rename_i hw
          simp only [hw, if_true] at hh
          exact oper_round (hnd _ _ ho) ih (hh.resolve_right (fun e => hno e.2))
        · rename_i hw
          simp only [hw] at hh
          exact ⟨fun _ _ => trivial, ih _ _ hh⟩⟩
theorem round_held {id : Nat} {S : World → Prop} {a : Act} {w : World} {ol : List Oper} (hm : P.follows .mixedOrders = true) (hnd : ol.all (fun o : Oper => match o.op with | .defer _ => false | _ => true) = true) (hno : ¬ LetsOut Q)
    (hS : S w.drew) (h : S w.drew → wpAnyH P .any ol.toArray Q S ol.toArray.size (Array.replicate ol.toArray.size false) a w.drew) : (Code.region id ol.toArray true).wpIn (Fence.wide.inRound l) n P Q a w := by
  refine wpIn_region_any hm (round_any ?_ hno _ _ _ _ (wpAny_of_held (S := S) _ _ _ _ (h hS)))
  intro i o ho c hc
  simp only [List.getElem?_toArray] at ho
  have := List.all_eq_true.1 hnd o (List.mem_of_getElem? ho)
  rw [hc] at this
  cases this
end
/-- What Line tells. -/
def LineR (n : Int) (R : List Int) (c : Cn) (er : Value) : Prop :=
  ((n < 0 ∨ (cnt R).l < n) → c = Cn.zero ∧ er = errno 2) ∧ (¬ (n < 0 ∨ (cnt R).l < n) → er = .nilIface ∧ Ln n R c)
def LinePost (n : Int) (R : List Int) (w : World) (e : Ending) (w' : World) : Prop :=
  Below w.heap.size w w' ∧ ∃ c er, e = .returned (.tuple #[c.v, er]) ∧ LineR n R c er
structure LnT (w wr : World) (n : Int) : Prop where
  bn : Blk wr w.heap.size 3 #[.int .i64 n]
  r0 : CnBlk wr (w.heap.size + 1) Cn.zero
  r1 : Blk wr (w.heap.size + 1 + 1) 25 #[.nilIface]
  below : Below w.heap.size w wr
theorem LnT.then_below {w wr w2 : World} {n : Int} (h : LnT w wr n) (hb : Below wr.heap.size wr w2) : LnT w w2 n :=
  ⟨h.bn.below hb h.bn.lt, h.r0.below hb h.r0.lt, h.r1.below hb h.r1.lt, bstep h.below hb⟩
theorem three_new (w : World) (n : Int) (er : Value) : ∀ W, W = (((w.alloc (.cells #[.int .i64 n] 3)).alloc (.cells #[.int .i64 0, .int .i64 0, .int .i64 0, .int .i64 0] 63)).alloc (.cells #[er] 25)) →
    CnBlk W (w.heap.size + 1) Cn.zero ∧ Blk W (w.heap.size + 1 + 1) 25 #[er] ∧ Below w.heap.size w W ∧ Blk W w.heap.size 3 #[.int .i64 n] := by
  rintro W rfl
  have h1 := Blk.new w 3 #[.int .i64 n]
  have h3 := heap_alloc_new (w.alloc (.cells #[.int .i64 n] 3)) (.cells #[.int .i64 0, .int .i64 0, .int .i64 0, .int .i64 0] 63)
  have h4 := Blk.new ((w.alloc (.cells #[.int .i64 n] 3)).alloc (.cells #[.int .i64 0, .int .i64 0, .int .i64 0, .int .i64 0] 63)) 25 #[er]
  simp only [World.size_alloc] at h3 h4
  have h3' : CnBlk _ (w.heap.size + 1) Cn.zero := h3
  exact ⟨Blk.alloc (t := 63) h3' _, h4, ex_alloc (ex_alloc (ex_alloc (Below.refl _ _) _) _) _, (h1.alloc _).alloc _⟩
theorem ln_store {w wr : World} {n : Int} (h : LnT w wr n) (c : Cn) (er : Value) : ∀ W', W' = (((((wr.setCell ⟨w.heap.size + 1, 0, none⟩ (.int .i64 c.b)).setCell ⟨w.heap.size + 1, 1, none⟩ (.int .i64 c.h)).setCell ⟨w.heap.size + 1, 2, none⟩ (.int .i64 c.r)).setCell ⟨w.heap.size + 1, 3, none⟩ (.int .i64 c.l)).setCell ⟨w.heap.size + 1 + 1, 0, none⟩ er) →
    CnBlk W' (w.heap.size + 1) c ∧ Blk W' (w.heap.size + 1 + 1) 25 #[er] ∧ Below w.heap.size w W' ∧ (∀ b, b ≠ w.heap.size + 1 → b ≠ w.heap.size + 1 + 1 → W'.heap[b]? = wr.heap[b]?) ∧ W'.heap.size = wr.heap.size := by
  rintro W' rfl
  obtain ⟨h1, h2, h3⟩ := cn_set (y := c) h.r0
  have hr1 : Blk _ (w.heap.size + 1 + 1) _ _ := (h3 (w.heap.size + 1 + 1) (by omega)).trans h.r1
  refine ⟨(Below.heap_setCell _ _ _ _ (by show w.heap.size + 1 ≠ w.heap.size + 1 + 1; omega)).trans h1, hr1.set_ 0 er, ?_, fun b hb1 hb2 => (Below.heap_setCell _ _ _ _ (by show b ≠ w.heap.size + 1 + 1; exact hb2)).trans (h3 b hb1), by simp⟩
  exact (h.below.trans (h2 _ (by omega))).setCell (p := ⟨w.heap.size + 1 + 1, 0, none⟩) (by show w.heap.size ≤ w.heap.size + 1 + 1; omega) _
structure LnS (w wr : World) (z : Nat) (n : Int) (c : Cn) : Prop where
  t : LnT w wr n
  bc : CnBlk wr z c
  hz : w.heap.size + 3 ≤ z
theorem LnS.then_below {w wr w2 : World} {z : Nat} {n : Int} {c : Cn} (h : LnS w wr z n c) (hb : Below wr.heap.size wr w2) : LnS w w2 z n c := ⟨h.t.then_below hb, h.bc.below hb h.bc.lt, h.hz⟩
theorem LnS.belowB {w wr w2 : World} {z b : Nat} {n : Int} {c : Cn} (h : LnS w wr z n c) (hb : Below b wr w2) (hz : z < b) : LnS w w2 z n c := by
  have := h.hz
  exact ⟨⟨h.t.bn.below hb (by omega), h.t.r0.below hb (by omega), h.t.r1.below hb (by omega), h.t.below.trans (hb.mono (by omega))⟩, h.bc.below hb hz, h.hz⟩
theorem LnS.set_c {w wr : World} {z : Nat} {n : Int} {c c' : Cn} (h : LnS w wr z n c) :
    LnS w ((((wr.setCell ⟨z, 0, none⟩ (.int .i64 c'.b)).setCell ⟨z, 1, none⟩ (.int .i64 c'.h)).setCell ⟨z, 2, none⟩ (.int .i64 c'.r)).setCell ⟨z, 3, none⟩ (.int .i64 c'.l)) z n c' := by
  obtain ⟨h1, h2, h3⟩ := cn_set (y := c') h.bc
  have hz := h.hz
  exact ⟨⟨(h3 _ (by omega)).trans h.t.bn, (h3 _ (by omega)).trans h.t.r0, (h3 _ (by omega)).trans h.t.r1, h.t.below.trans (h2 _ (by omega))⟩, h1, hz⟩
structure LnL (w wr : World) (z y : Nat) (n : Int) (c cl : Cn) : Prop where
  s : LnS w wr z n c
  by_ : CnBlk wr y cl
  zy : z < y
theorem LnL.then_below {w wr w2 : World} {z y : Nat} {n : Int} {c cl : Cn} (h : LnL w wr z y n c cl) (hb : Below wr.heap.size wr w2) : LnL w w2 z y n c cl := ⟨h.s.then_below hb, h.by_.below hb h.by_.lt, h.zy⟩
theorem LnL.drew {w wr : World} {z y : Nat} {n : Int} {c cl : Cn} (h : LnL w wr z y n c cl) : LnL w wr.drew z y n c cl := h.then_below (ex_drew (Below.refl _ _))
def LnX (w : World) (n : Int) (R : List Int) (W : World) : Prop :=
  Below w.heap.size w W ∧ ∃ c er, CnBlk W (w.heap.size + 1) c ∧ Blk W (w.heap.size + 1 + 1) 25 #[er] ∧ LineR n R c er
theorem cn_new (w : World) : CnBlk (w.alloc (.cells #[.int .i64 0, .int .i64 0, .int .i64 0, .int .i64 0] 63)) w.heap.size Cn.zero := heap_alloc_new w _
theorem l_le {rs : List Int} {k : Nat} (h : rs.length ≤ k) : (cnt rs).l ≤ 4 * k := by
  obtain ⟨⟨b0, b1, h0, h1, r0, r1, l0, l1⟩, -, -⟩ := cnt_in rs
  omega
attribute [local go_sem] Oper.semAt_some Cn.v_eq field_cn3
end Go.Proofs.YtdgdajnbkfmijaaGreatDoor
