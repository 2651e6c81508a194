/- An argument that is an operation, opened: a list of parts; and what the bound on its bulk gives. -/
import Derived.Test.YtgokmldngnmmhaaDoorMShapeAlike38
import Derived.Test.YtgokmldngnmmhaaDoorMShapeAlike40
import Derived.Test.YtgokmldngnmmhaaDoorRows
import Derived.Deep.Slices
import Derived.ChangeArms
namespace Go.Proofs.YtgokmldngnmmhaaDoor
open Go.ChangeShapes Go.WideShapes Go.ChangeAt Go.RowKit
set_option maxRecDepth 100000
theorem pt_cellsOf : Tryd.prog.cellsOf 111 = 3 := by kernel_rfl
theorem int_cellsOf : Tryd.prog.cellsOf 3 = 1 := by kernel_rfl
theorem str_cellsOf : Tryd.prog.cellsOf 9 = 1 := by kernel_rfl
/-- A part as data. -/
def PT.dat {H : Type} (p : PT) : DataW H := .agg [.lit (.int .i64 p.keep), .lit (.int .i64 p.drop), .lit (.string p.put)]
structure PT.In (p : PT) : Prop where
  k : -9223372036854775808 ≤ p.keep ∧ p.keep ≤ 9223372036854775807
  d : -9223372036854775808 ≤ p.drop ∧ p.drop ≤ 9223372036854775807
  s : p.put.length ≤ maxLen
theorem wf_i64 {n : Int} (h : (Lit.int .i64 n).wf = true) : -9223372036854775808 ≤ n ∧ n ≤ 9223372036854775807 := by
  simp [Lit.wf, IntKind.min, IntKind.max, IntKind.signed, IntKind.bits] at h
  omega
section
variable {H : Type} {enc : TypeId × Value → H} {w : World} {base : Nat} {sp : Nat → Bool} {held : Bool}
theorem open_part {n : Nat} {cs : List Value} {x : DataW H × List MemPlace} (h : DataW.trod enc Tryd.prog w base sp held n 111 cs = some x) :
    ∃ p : PT, cs = p.cells ∧ x.1 = p.dat ∧ p.In := by
  obtain ⟨xs, n', _, rfl, hcs, hxs, hf⟩ := DataW.trod_struct pt_fields h
  rw [pt_cellsOf] at hcs
  obtain ⟨f0, f1, f2, hl, h0, h1, h2⟩ := pt_list3
  simp only [Prod.mk.injEq] at h0 h1 h2
  have hsz : (Tryd.prog.fieldsOf 111).size = 3 := by rw [← Array.length_toList, hl]; rfl
  rw [hsz] at hxs
  have g : ∀ i f, [f0, f1, f2][i]? = some f → (Tryd.prog.fieldsOf 111)[i]? = some f := fun i f hi => by rw [← Array.getElem?_toList, hl]; exact hi
  match cs, hcs, xs, hxs with
  | [c0, c1, c2], _, [x0, x1, x2], _ =>
    have e0 := hf 0 f0 (g 0 f0 rfl)
    have e1 := hf 1 f1 (g 1 f1 rfl)
    have e2 := hf 2 f2 (g 2 f2 rfl)
    rw [h0.2.1, h0.2.2, int_cellsOf] at e0
    rw [h1.2.1, h1.2.2, int_cellsOf] at e1
    rw [h2.2.1, h2.2.2, str_cellsOf] at e2
    obtain ⟨a, a1, rfl, a3⟩ := DataW.trod_int Tryd.underlying3 e0
    obtain ⟨b, b1, rfl, b3⟩ := DataW.trod_int Tryd.underlying3 e1
    obtain ⟨s, s1, rfl, s3⟩ := DataW.trod_string Tryd.underlying9 e2
    simp at a1 b1 s1
    subst a1 b1 s1
    exact ⟨⟨a, b, s.data.toList⟩, by simp [PT.cells], rfl, wf_i64 a3, wf_i64 b3, s3⟩
theorem open_parts {r : Reach} {b0 : Nat} {v : Value} {d : DataW H} {ps : List MemPlace}
    (hval : Value.okWide Tryd.prog w r b0 52 v) (hd : DataW.Trod enc Tryd.prog w base (fun _ => true) true 52 v d ps) :
    ∃ (n : Nat) (l : List PT), Sl w 3 v n (opv l) ∧ l.length = n ∧ (∀ p ∈ l, p.In) ∧ (l = [] ∨ ∃ spare, d = .slice (l.map PT.dat) spare) := by
  obtain ⟨a0, len, cap, rfl⟩ := okWide_slice Tryd.underlying52 hval
  obtain ⟨fuel, hf⟩ := hd
  rcases Go.Deep.open_slice Tryd.underlying52 hf with ⟨hcs, hx⟩ | ⟨a, len', cap', m, n, D, Pl, hcs, _, hl, hm, hmm, hx, hi⟩
  · simp [Value.cells] at hcs
    obtain ⟨rfl, rfl, rfl⟩ := hcs
    exact ⟨0, [], Sl.nil w 3, rfl, fun p hp => by simp at hp, .inl rfl⟩
  · simp [Value.cells] at hcs
    obtain ⟨rfl, rfl, rfl⟩ := hcs
    simp only [if_true] at hmm
    subst hmm
    rw [pt_cellsOf] at hi
    have hpt : ∀ i, ∃ p : PT, i < len → (∀ j u, p.cells[j]? = some u → w.cell? (a.add (i * 3 + j)) = some u) ∧ D i = p.dat ∧ p.In := by
      intro i
      by_cases h : i < len
      · obtain ⟨cs', hc, ht⟩ := hi i (by omega)
        obtain ⟨p, rfl, hx, hin⟩ := open_part ht
        obtain ⟨_, _, hat⟩ := World.cells?_some hc
        refine ⟨p, fun _ => ⟨fun j u hu => ?_, hx, hin⟩⟩
        have hj : j < 3 := by
          rcases Nat.lt_or_ge j 3 with h | h
          · exact h
          · rw [List.getElem?_eq_none (by simpa using h)] at hu; cases hu
        rw [← add_of_add, hat j hj, hu]
      · exact ⟨⟨0, 0, []⟩, fun h' => absurd h' h⟩
    obtain ⟨f, hf'⟩ := Classical.axiomOfChoice hpt
    refine ⟨len, (List.range len).map f, ⟨some a, _, rfl, by rw [opv_length]; simp, hl, hm, (fun h => nomatch h), fun hn => ⟨a, rfl, ?_, ?_⟩⟩, by simp, ?_, ?_⟩
    · have h1 := (hf' 0 hn).1 0 _ rfl
      have := World.block_lt_of_cell? w _ h1
      rw [block_of_add] at this
      exact this
    · intro j u hu
      have hj : j < len * 3 := by
        rcases Nat.lt_or_ge j (len * 3) with h | h
        · exact h
        · rw [List.getElem?_eq_none (by rw [opv_length]; simpa using h)] at hu; cases hu
      have hk : j / 3 < ((List.range len).map f).length := by simp; omega
      obtain ⟨o0, o1, o2⟩ := opv_at hk
      have hg : ((List.range len).map f)[j / 3] = f (j / 3) := by simp
      rw [hg] at o0 o1 o2
      obtain ⟨hc, _, _⟩ := hf' (j / 3) (by omega)
      have hr : j % 3 = 0 ∨ j % 3 = 1 ∨ j % 3 = 2 := by omega
      rcases hr with hr | hr | hr
      · rw [show j = 3 * (j / 3) from by omega, o0] at hu
        have := hc 0 u (by simpa using hu)
        rwa [show j / 3 * 3 + 0 = j from by omega] at this
      · rw [show j = 3 * (j / 3) + 1 from by omega, o1] at hu
        have := hc 1 u (by simpa using hu)
        rwa [show j / 3 * 3 + 1 = j from by omega] at this
      · rw [show j = 3 * (j / 3) + 2 from by omega, o2] at hu
        have := hc 2 u (by simpa using hu)
        rwa [show j / 3 * 3 + 2 = j from by omega] at this
    · intro p hp
      obtain ⟨i, hi', rfl⟩ := List.mem_map.1 hp
      exact (hf' i (List.mem_range.1 hi')).2.2
    · right
      simp only [Prod.mk.injEq] at hx
      refine ⟨(List.range (m - len)).map fun j => D (len + j), hx.1.trans ?_⟩
      rw [List.map_map, List.map_congr_left (g := PT.dat ∘ f) fun i hi' => (hf' i (List.mem_range.1 hi')).2.1]
end
/-- How much is put in all, and a letter a part. -/
def plenB : List PT → Nat
  | [] => 0
  | p :: l => p.put.length + plenB l
/-- A part's letters are within the bulk. -/
theorem bulk_mem {H : Type} {d : DataW H} {l : List (DataW H)} (h : d ∈ l) : Rows.uptoBulk d ≤ Rows.uptoBulkAll l := by
  induction l with
  | nil => cases h
  | cons x r ih =>
    simp only [Rows.uptoBulkAll]
    rcases List.mem_cons.1 h with e | e
    · subst e; omega
    · have := ih e; omega
theorem bulk_of {H : Type} {l : List (DataW H)} (hk : Rows.uptoSmall H l = true) : Rows.uptoBulkAll l ≤ 1048576 := of_decide_eq_true hk
theorem bulk_parts {H : Type} {l : List PT} {spare : List (DataW H)} {ds : List (DataW H)} (hd : (.slice (l.map PT.dat) spare : DataW H) ∈ ds) (hk : Rows.uptoSmall H ds = true) : plenB l ≤ 1048576 := by
  have h1 := bulk_mem hd
  have h2 := bulk_of hk
  simp only [Rows.uptoBulk] at h1
  have h3 : plenB l ≤ Rows.uptoBulkAll (l.map (PT.dat (H := H))) := by
    clear hd h1
    induction l with
    | nil => simp [plenB]
    | cons p l ih =>
      simp only [List.map_cons, Rows.uptoBulkAll, plenB, PT.dat, Rows.uptoBulk]
      omega
  omega
theorem plenB_mem {l : List PT} {p : PT} (h : p ∈ l) : p.put.length ≤ plenB l := by
  induction l with
  | nil => simp at h
  | cons q l ih =>
    rw [plenB]
    rcases List.mem_cons.1 h with e | e
    · subst e; omega
    · have := ih e; omega
end Go.Proofs.YtgokmldngnmmhaaDoor
