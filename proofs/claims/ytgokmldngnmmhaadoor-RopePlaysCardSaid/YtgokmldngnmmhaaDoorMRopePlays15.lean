/- Several texts of the proof, one behind the other: PartO, CutO, RowL, LaidL. -/
import Derived.Test.YtgokmldngnmmhaaDoorMRopePlays14
import Derived.Test.YtgokmldngnmmhaaDoorRows
import Derived.Deep.Slices
import Derived.ChangeArms
import Derived.Carry
import Derived.ProofKit
import Derived.OpenShut
import Derived.Test.YtgokmldngnmmhaaDoorMRopePlays6
import Derived.ChangeSame
import Derived.ChangeVars
import Derived.JoinedOf
import Derived.RowKitTokens
import Derived.LaidLaws
import Derived.LaidHandle
import Derived.Stop.Joined
/- An argument that is an operation, opened: a list of parts; and what the bound on its bulk gives. -/
namespace Go.Proofs.YtgokmldngnmmhaaDoor
open Go.ChangeShapes Go.WideShapes Go.ChangeAt Go.RowKit
set_option maxRecDepth 100000
theorem pt_cellsOf : Tryd.prog.cellsOf 111 = 3 := by kernel_rfl
theorem int_cellsOf : Tryd.prog.cellsOf 3 = 1 := by kernel_rfl
theorem str_cellsOf : Tryd.prog.cellsOf 9 = 1 := by kernel_rfl
/-- A part as data. -/
def PT.dat {H : Type} (p : PT) : DataW H := .agg [.lit (.int .i64 p.keep), .lit (.int .i64 p.drop), .lit (.string p.put)]
structure PT.In (p : PT) : Prop where
  k : -9223372036854775808 ≤ p.keep ∧ p.keep ≤ 9223372036854775807
  d : -9223372036854775808 ≤ p.drop ∧ p.drop ≤ 9223372036854775807
  s : p.put.length ≤ maxLen
theorem wf_i64 {n : Int} (h : (Lit.int .i64 n).wf = true) : -9223372036854775808 ≤ n ∧ n ≤ 9223372036854775807 := by
  simp [Lit.wf, IntKind.min, IntKind.max, IntKind.signed, IntKind.bits] at h
  omega
section
variable {H : Type} {enc : TypeId × Value → H} {w : World} {base : Nat} {sp : Nat → Bool} {held : Bool}
theorem open_part {n : Nat} {cs : List Value} {x : DataW H × List MemPlace} (h : DataW.trod enc Tryd.prog w base sp held n 111 cs = some x) :
    ∃ p : PT, cs = p.cells ∧ x.1 = p.dat ∧ p.In := by
  obtain ⟨xs, n', _, rfl, hcs, hxs, hf⟩ := DataW.trod_struct pt_fields h
  rw [pt_cellsOf] at hcs
  obtain ⟨f0, f1, f2, hl, h0, h1, h2⟩ := pt_list3
  simp only [Prod.mk.injEq] at h0 h1 h2
  have hsz : (Tryd.prog.fieldsOf 111).size = 3 := by rw [← Array.length_toList, hl]; rfl
  rw [hsz] at hxs
  have g : ∀ i f, [f0, f1, f2][i]? = some f → (Tryd.prog.fieldsOf 111)[i]? = some f := fun i f hi => by rw [← Array.getElem?_toList, hl]; exact hi
  match cs, hcs, xs, hxs with
  | [c0, c1, c2], _, [x0, x1, x2], _ =>
    have e0 := hf 0 f0 (g 0 f0 rfl)
    have e1 := hf 1 f1 (g 1 f1 rfl)
    have e2 := hf 2 f2 (g 2 f2 rfl)
    rw [h0.2.1, h0.2.2, int_cellsOf] at e0
    rw [h1.2.1, h1.2.2, int_cellsOf] at e1
    rw [h2.2.1, h2.2.2, str_cellsOf] at e2
    obtain ⟨a, a1, rfl, a3⟩ := DataW.trod_int Tryd.underlying3 e0
    obtain ⟨b, b1, rfl, b3⟩ := DataW.trod_int Tryd.underlying3 e1
    obtain ⟨s, s1, rfl, s3⟩ := DataW.trod_string Tryd.underlying9 e2
    simp at a1 b1 s1
    subst a1 b1 s1
    exact ⟨⟨a, b, s.data.toList⟩, by simp [PT.cells], rfl, wf_i64 a3, wf_i64 b3, s3⟩
theorem open_parts {r : Reach} {b0 : Nat} {v : Value} {d : DataW H} {ps : List MemPlace}
    (hval : Value.okWide Tryd.prog w r b0 52 v) (hd : DataW.Trod enc Tryd.prog w base (fun _ => true) true 52 v d ps) :
    ∃ (n : Nat) (l : List PT), Sl w 3 v n (opv l) ∧ l.length = n ∧ (∀ p ∈ l, p.In) ∧ (l = [] ∨ ∃ spare, d = .slice (l.map PT.dat) spare) := by
  obtain ⟨a0, len, cap, rfl⟩ := okWide_slice Tryd.underlying52 hval
  obtain ⟨fuel, hf⟩ := hd
  rcases Go.Deep.open_slice Tryd.underlying52 hf with ⟨hcs, hx⟩ | ⟨a, len', cap', m, n, D, Pl, hcs, _, hl, hm, hmm, hx, hi⟩
  · simp [Value.cells] at hcs
    obtain ⟨rfl, rfl, rfl⟩ := hcs
    exact ⟨0, [], Sl.nil w 3, rfl, fun p hp => by simp at hp, .inl rfl⟩
  · simp [Value.cells] at hcs
    obtain ⟨rfl, rfl, rfl⟩ := hcs
    simp only [if_true] at hmm
    subst hmm
    rw [pt_cellsOf] at hi
    have hpt : ∀ i, ∃ p : PT, i < len → (∀ j u, p.cells[j]? = some u → w.cell? (a.add (i * 3 + j)) = some u) ∧ D i = p.dat ∧ p.In := by
      intro i
      by_cases h : i < len
      · obtain ⟨cs', hc, ht⟩ := hi i (by omega)
        obtain ⟨p, rfl, hx, hin⟩ := open_part ht
        obtain ⟨_, _, hat⟩ := World.cells?_some hc
        refine ⟨p, fun _ => ⟨fun j u hu => ?_, hx, hin⟩⟩
        have hj : j < 3 := by
          rcases Nat.lt_or_ge j 3 with h | h
          · exact h
          · rw [List.getElem?_eq_none (by simpa using h)] at hu; cases hu
        rw [← add_of_add, hat j hj, hu]
      · exact ⟨⟨0, 0, []⟩, fun h' => absurd h' h⟩
    obtain ⟨f, hf'⟩ := Classical.axiomOfChoice hpt
    refine ⟨len, (List.range len).map f, ⟨some a, _, rfl, by rw [opv_length]; simp, hl, hm, (fun h => nomatch h), fun hn => ⟨a, rfl, ?_, ?_⟩⟩, by simp, ?_, ?_⟩
    · have h1 := (hf' 0 hn).1 0 _ rfl
      have := World.block_lt_of_cell? w _ h1
      rw [block_of_add] at this
      exact this
    · intro j u hu
      have hj : j < len * 3 := by
        rcases Nat.lt_or_ge j (len * 3) with h | h
        · exact h
        · rw [List.getElem?_eq_none (by rw [opv_length]; simpa using h)] at hu; cases hu
      have hk : j / 3 < ((List.range len).map f).length := by simp; omega
      obtain ⟨o0, o1, o2⟩ := opv_at hk
      have hg : ((List.range len).map f)[j / 3] = f (j / 3) := by simp
      rw [hg] at o0 o1 o2
      obtain ⟨hc, _, _⟩ := hf' (j / 3) (by omega)
      have hr : j % 3 = 0 ∨ j % 3 = 1 ∨ j % 3 = 2 := by omega
      rcases hr with hr | hr | hr
      · rw [show j = 3 * (j / 3) from by omega, o0] at hu
        have := hc 0 u (by simpa using hu)
        rwa [show j / 3 * 3 + 0 = j from by omega] at this
      · rw [show j = 3 * (j / 3) + 1 from by omega, o1] at hu
        have := hc 1 u (by simpa using hu)
        rwa [show j / 3 * 3 + 1 = j from by omega] at this
      · rw [show j = 3 * (j / 3) + 2 from by omega, o2] at hu
        have := hc 2 u (by simpa using hu)
        rwa [show j / 3 * 3 + 2 = j from by omega] at this
    · intro p hp
      obtain ⟨i, hi', rfl⟩ := List.mem_map.1 hp
      exact (hf' i (List.mem_range.1 hi')).2.2
    · right
      simp only [Prod.mk.injEq] at hx
      refine ⟨(List.range (m - len)).map fun j => D (len + j), hx.1.trans ?_⟩
      rw [List.map_map, List.map_congr_left (g := PT.dat ∘ f) fun i hi' => (hf' i (List.mem_range.1 hi')).2.1]
end
/-- How much is put in all, and a letter a part. -/
def plenB : List PT → Nat
  | [] => 0
  | p :: l => p.put.length + plenB l
/-- A part's letters are within the bulk. -/
theorem bulk_mem {H : Type} {d : DataW H} {l : List (DataW H)} (h : d ∈ l) : Rows.uptoBulk d ≤ Rows.uptoBulkAll l := by
  induction l with
  | nil => cases h
  | cons x r ih =>
    simp only [Rows.uptoBulkAll]
    rcases List.mem_cons.1 h with e | e
    · subst e; omega
    · have := ih e; omega
theorem bulk_of {H : Type} {l : List (DataW H)} (hk : Rows.uptoSmall H l = true) : Rows.uptoBulkAll l ≤ 1048576 := of_decide_eq_true hk
theorem bulk_parts {H : Type} {l : List PT} {spare : List (DataW H)} {ds : List (DataW H)} (hd : (.slice (l.map PT.dat) spare : DataW H) ∈ ds) (hk : Rows.uptoSmall H ds = true) : plenB l ≤ 1048576 := by
  have h1 := bulk_mem hd
  have h2 := bulk_of hk
  simp only [Rows.uptoBulk] at h1
  have h3 : plenB l ≤ Rows.uptoBulkAll (l.map (PT.dat (H := H))) := by
    clear hd h1
    induction l with
    | nil => simp [plenB]
    | cons p l ih =>
      simp only [List.map_cons, Rows.uptoBulkAll, plenB, PT.dat, Rows.uptoBulk]
      omega
  omega
theorem plenB_mem {l : List PT} {p : PT} (h : p ∈ l) : p.put.length ≤ plenB l := by
  induction l with
  | nil => simp at h
  | cons q l ih =>
    rw [plenB]
    rcases List.mem_cons.1 h with e | e
    · subst e; omega
    · have := ih e; omega
end Go.Proofs.YtgokmldngnmmhaaDoor
/- An argument that is a list of cuts, opened. -/
namespace Go.Proofs.YtgokmldngnmmhaaDoor
open Go.ChangeShapes Go.WideShapes Go.ChangeAt Go.RowKit
set_option maxRecDepth 100000
namespace CT
theorem pt_fields : Tryd.prog.underlying 117 = some (.struct (Tryd.prog.fieldsOf 117)) := by kernel_rfl
theorem pt_list : (Tryd.prog.fieldsOf 117).toList.map (fun f => (f.name, f.type, f.offset)) = [("At", 3, 0), ("Drop", 3, 1), ("Put", 9, 2)] := by kernel_rfl
theorem pt_list3 : ∃ f0 f1 f2, (Tryd.prog.fieldsOf 117).toList = [f0, f1, f2] ∧ (f0.name, f0.type, f0.offset) = ("At", 3, 0) ∧ (f1.name, f1.type, f1.offset) = ("Drop", 3, 1) ∧ (f2.name, f2.type, f2.offset) = ("Put", 9, 2) := by
  exact three_of_map _ pt_list
theorem pt_cellsOf : Tryd.prog.cellsOf 117 = 3 := by kernel_rfl
section
variable {H : Type} {enc : TypeId × Value → H} {w : World} {base : Nat} {sp : Nat → Bool} {held : Bool}
theorem open_cut {n : Nat} {cs : List Value} {x : DataW H × List MemPlace} (h : DataW.trod enc Tryd.prog w base sp held n 117 cs = some x) :
    ∃ p : PT, cs = p.cells ∧ x.1 = p.dat ∧ p.In := by
  obtain ⟨xs, n', _, rfl, hcs, hxs, hf⟩ := DataW.trod_struct pt_fields h
  rw [pt_cellsOf] at hcs
  obtain ⟨f0, f1, f2, hl, h0, h1, h2⟩ := pt_list3
  simp only [Prod.mk.injEq] at h0 h1 h2
  have hsz : (Tryd.prog.fieldsOf 117).size = 3 := by rw [← Array.length_toList, hl]; rfl
  rw [hsz] at hxs
  have g : ∀ i f, [f0, f1, f2][i]? = some f → (Tryd.prog.fieldsOf 117)[i]? = some f := fun i f hi => by rw [← Array.getElem?_toList, hl]; exact hi
  match cs, hcs, xs, hxs with
  | [c0, c1, c2], _, [x0, x1, x2], _ =>
    have e0 := hf 0 f0 (g 0 f0 rfl)
    have e1 := hf 1 f1 (g 1 f1 rfl)
    have e2 := hf 2 f2 (g 2 f2 rfl)
    rw [h0.2.1, h0.2.2, int_cellsOf] at e0
    rw [h1.2.1, h1.2.2, int_cellsOf] at e1
    rw [h2.2.1, h2.2.2, str_cellsOf] at e2
    obtain ⟨a, a1, rfl, a3⟩ := DataW.trod_int Tryd.underlying3 e0
    obtain ⟨b, b1, rfl, b3⟩ := DataW.trod_int Tryd.underlying3 e1
    obtain ⟨s, s1, rfl, s3⟩ := DataW.trod_string Tryd.underlying9 e2
    simp at a1 b1 s1
    subst a1 b1 s1
    exact ⟨⟨a, b, s.data.toList⟩, by simp [PT.cells], rfl, wf_i64 a3, wf_i64 b3, s3⟩
theorem open_cuts {r : Reach} {b0 : Nat} {v : Value} {d : DataW H} {ps : List MemPlace}
    (hval : Value.okWide Tryd.prog w r b0 115 v) (hd : DataW.Trod enc Tryd.prog w base (fun _ => true) true 115 v d ps) :
    ∃ (n : Nat) (l : List PT), Sl w 3 v n (opv l) ∧ l.length = n ∧ (∀ p ∈ l, p.In) ∧ (l = [] ∨ ∃ spare, d = .slice (l.map PT.dat) spare) := by
  obtain ⟨a0, len, cap, rfl⟩ := okWide_slice Tryd.underlying115 hval
  obtain ⟨fuel, hf⟩ := hd
  rcases Go.Deep.open_slice Tryd.underlying115 hf with ⟨hcs, hx⟩ | ⟨a, len', cap', m, n, D, Pl, hcs, _, hl, hm, hmm, hx, hi⟩
  · simp [Value.cells] at hcs
    obtain ⟨rfl, rfl, rfl⟩ := hcs
    exact ⟨0, [], Sl.nil w 3, rfl, fun p hp => by simp at hp, .inl rfl⟩
  · simp [Value.cells] at hcs
    obtain ⟨rfl, rfl, rfl⟩ := hcs
    simp only [if_true] at hmm
    subst hmm
    rw [pt_cellsOf] at hi
    have hpt : ∀ i, ∃ p : PT, i < len → (∀ j u, p.cells[j]? = some u → w.cell? (a.add (i * 3 + j)) = some u) ∧ D i = p.dat ∧ p.In := by
      intro i
      by_cases h : i < len
      · obtain ⟨cs', hc, ht⟩ := hi i (by omega)
        obtain ⟨p, rfl, hx, hin⟩ := open_cut ht
        obtain ⟨_, _, hat⟩ := World.cells?_some hc
        refine ⟨p, fun _ => ⟨fun j u hu => ?_, hx, hin⟩⟩
        have hj : j < 3 := by
          rcases Nat.lt_or_ge j 3 with h | h
          · exact h
          · rw [List.getElem?_eq_none (by simpa using h)] at hu; cases hu
        rw [← add_of_add, hat j hj, hu]
      · exact ⟨⟨0, 0, []⟩, fun h' => absurd h' h⟩
    obtain ⟨f, hf'⟩ := Classical.axiomOfChoice hpt
    refine ⟨len, (List.range len).map f, ⟨some a, _, rfl, by rw [opv_length]; simp, hl, hm, (fun h => nomatch h), fun hn => ⟨a, rfl, ?_, ?_⟩⟩, by simp, ?_, ?_⟩
    · have h1 := (hf' 0 hn).1 0 _ rfl
      have := World.block_lt_of_cell? w _ h1
      rw [block_of_add] at this
      exact this
    · intro j u hu
      have hj : j < len * 3 := by
        rcases Nat.lt_or_ge j (len * 3) with h | h
        · exact h
        · rw [List.getElem?_eq_none (by rw [opv_length]; simpa using h)] at hu; cases hu
      have hk : j / 3 < ((List.range len).map f).length := by simp; omega
      obtain ⟨o0, o1, o2⟩ := opv_at hk
      have hg : ((List.range len).map f)[j / 3] = f (j / 3) := by simp
      rw [hg] at o0 o1 o2
      obtain ⟨hc, _, _⟩ := hf' (j / 3) (by omega)
      have hr : j % 3 = 0 ∨ j % 3 = 1 ∨ j % 3 = 2 := by omega
      rcases hr with hr | hr | hr
      · rw [show j = 3 * (j / 3) from by omega, o0] at hu
        have := hc 0 u (by simpa using hu)
        rwa [show j / 3 * 3 + 0 = j from by omega] at this
      · rw [show j = 3 * (j / 3) + 1 from by omega, o1] at hu
        have := hc 1 u (by simpa using hu)
        rwa [show j / 3 * 3 + 1 = j from by omega] at this
      · rw [show j = 3 * (j / 3) + 2 from by omega, o2] at hu
        have := hc 2 u (by simpa using hu)
        rwa [show j / 3 * 3 + 2 = j from by omega] at this
    · intro p hp
      obtain ⟨i, hi', rfl⟩ := List.mem_map.1 hp
      exact (hf' i (List.mem_range.1 hi')).2.2
    · right
      simp only [Prod.mk.injEq] at hx
      refine ⟨(List.range (m - len)).map fun j => D (len + j), hx.1.trans ?_⟩
      rw [List.map_map, List.map_congr_left (g := PT.dat ∘ f) fun i hi' => (hf' i (List.mem_range.1 hi')).2.1]
end
end CT
end Go.Proofs.YtgokmldngnmmhaaDoor
/- The step from a law's contract to its row: where the call returned true and below the old heap's size nothing has turned, each argument reads as it did. Over any program. -/
namespace Go.Proofs.YtgokmldngnmmhaaDoor
open Go.ChangeShapes Go.WideShapes Go.ChangeAt Go.RowKit
section
variable {H : Type} {enc : TypeId × Value → H} {P : Program}
theorem post_of_below {f : Func} {s : ChangeSpec} {apart fresh handsOn again : Bool} {W W' : World} {args : Array Value} {v : Value} {ds gs : List (DataW H)} {before pa pv : List MemPlace}
    (hW : DataW.Whole enc P f.params.toList s.vars apart W args.toList ds gs before)
    (hres : ∀ (b : Nat) (sp : Nat → Bool) (hd : Bool), DataW.TrodAll enc P W' b sp hd f.resultTypes.toList (v.resultList f.resultTypes.size) (s.fn H (ds ++ gs)).results [])
    (hargs : ∀ sp : Nat → Bool, (∀ p ∈ before, sp p.block = true) → DataW.TrodAll enc P W' 0 sp true f.params.toList args.toList (s.fn H (ds ++ gs)).args pa)
    (hvars : ∀ sp : Nat → Bool, (∀ p ∈ before, sp p.block = true) → DataW.TrodVars enc P W' sp s.vars (s.fn H (ds ++ gs)).vars pv)
    (hps : before = pa ++ pv) (hb : Below W.heap.size W W')
    (hok : ∀ (j : Nat) (t : TypeId) (r : Value), f.resultTypes[j]? = some t → (v.resultList f.resultTypes.size)[j]? = some r → Value.okWide P W' .any 0 t r) :
    s.post enc P f apart fresh handsOn again W args v W' := by
  have hlt : ∀ p ∈ before, p.block < W.heap.size := fun p hp => hW.lt p hp
  have hold : ∀ p ∈ before, (fun b => decide (b < W.heap.size)) p.block = true := fun p hp => by simpa using hlt p hp
  refine ⟨ds, gs, before, [], pa, pv, hW, hres _ _ _, hargs _ hold, hvars _ hold, World.keptBut_mono (fun p hp => ⟨hp, ?_⟩) (hb.frame (· ∈ before)), fun _ => ?_⟩
  · rw [hps, List.mem_append] at hp
    exact Or.inr hp
  · obtain ⟨_, _, _, _, _, hz, hn⟩ := hW
    refine ⟨hok, _, _, ([] ++ pa) ++ pv, ⟨[] ++ pa, pv, trodAll_append (hargs _ (fun _ _ => rfl)) (hres _ _ _), hvars _ (fun _ _ => rfl), rfl, ?_, ?_⟩, ?_⟩
    · intro b off hp
      have hin : MemPlace.cell b off ∈ before := by rw [hps]; simpa using hp
      rw [hb.frozen (hlt _ hin)]
      exact hz b off hin
    · intro ha
      have := hn ha
      rw [hps] at this
      simpa using this
    · intro p hp _
      rw [hps]
      simpa using hp
theorem trodAll_stays (hl : laidOutB P = true) {ts : List TypeId} (hr : ∀ t ∈ ts, P.readableRec t = true ∧ t < P.types.size) {W W' : World} (hb : Below W.heap.size W W') {sp' : Nat → Bool} {vs : List Value} {ds : List (DataW H)} {ps : List MemPlace}
    (h : DataW.TrodAll enc P W 0 (fun _ => true) true ts vs ds ps) (hlt : ∀ p ∈ ps, p.block < W.heap.size) (hs : ∀ p ∈ ps, sp' p.block = true) : DataW.TrodAll enc P W' 0 sp' true ts vs ds ps := by
  induction ts generalizing vs ds ps with
  | nil =>
    obtain ⟨rfl, rfl, rfl⟩ := trodAll_nil h
    exact trodAll_mk0
  | cons t ts ih =>
    obtain ⟨v, vs', d, ds', p, q, rfl, rfl, rfl, hd, hrest⟩ := trodAll_cons h
    refine trodAll_cons_mk ?_ (ih (fun u hu => hr u (List.mem_cons_of_mem _ hu)) hrest (fun x hx => hlt x (List.mem_append_right _ hx)) (fun x hx => hs x (List.mem_append_right _ hx)))
    obtain ⟨h1, h2⟩ := hr t List.mem_cons_self
    exact WideElems.Trod_stays hl h1 h2 hd (fun x hx => hb.same (hlt x (List.mem_append_left _ hx))) (fun x hx => hs x (List.mem_append_left _ hx))
/-- The whole step, for a law without package variables. -/
theorem law_post {f : Func} {s : ChangeSpec} {apart fresh handsOn again : Bool} {W W' : World} {args : Array Value} {ds : List (DataW H)} {before : List MemPlace} {tb : TypeId}
    (hl : laidOutB P = true) (hr : ∀ t ∈ f.params.toList, P.readableRec t = true ∧ t < P.types.size) (hv : s.vars = []) (hres : f.resultTypes = #[tb]) (hb1 : P.underlying tb = some .bool)
    (hW : DataW.Whole enc P f.params.toList s.vars apart W args.toList ds [] before)
    (hs : s.fn H (ds ++ []) = { results := [.lit (.bool true)], args := ds }) (hb : Below W.heap.size W W') :
    s.post enc P f apart fresh handsOn again W args (.bool true) W' := by
  have hW0 := hW
  obtain ⟨p, q, hA, hV, hpq, hfz, hnd⟩ := hW0
  rw [hv] at hV
  obtain ⟨_, rfl⟩ := trodVars_none hV
  simp only [List.append_nil] at hpq
  subst hpq
  refine post_of_below (pa := before) (pv := []) hW ?_ ?_ ?_ (by simp) hb ?_
  · intro b sp hd
    rw [hs, hres]
    exact trodAll_mk1 (shut_bool hb1 true)
  · intro sp hsp
    rw [hs]
    exact trodAll_stays hl hr hb hA (fun x hx => hW.lt x hx) hsp
  · intro sp hsp
    rw [hs, hv]
    rfl
  · exact ok_one hres rfl (okWide_bool_mk hb1 true)
end
end Go.Proofs.YtgokmldngnmmhaaDoor
/- The condition on errors.errorType: from the hypothesis to the variable's cell, and a world that meets it. -/
namespace Go.Proofs.YtgokmldngnmmhaaDoor
open Go.ChangeShapes Go.WideShapes Go.ChangeAt Go.RowKit
theorem ownK : ownKnob Tryd.prog.godebug = none := by kernel_rfl
theorem laidOut : laidOutB Tryd.prog = true := by kernel_rfl
theorem c32 : Tryd.prog.cellsOf 21 = 1 := by kernel_rfl
theorem c16 : Tryd.prog.cellsOf 128 = 1 := by kernel_rfl
theorem laid_et : Tryd.prog.globalNamed "errors.errorType" = some 0 := by kernel_rfl
theorem laid_rt : (Tryd.prog.cutTypes.find? (·.1 == "internal/reflectlite.rtype")).map (·.2) = some 224 := by kernel_rfl
theorem laid_row : ((List.range Tryd.prog.types.size).filter fun t => Tryd.prog.rowNamed t [101, 114, 114, 111, 114]) = [29] := by kernel_rfl
theorem hdl_of_laid {W : World} (h : laidMetH Tryd.prog [("errors.errorType", Rows.laid_errors_errorType)] W) : Hdl W := by
  have h' : laidMet Tryd.prog [] W ∧ handlesMet Tryd.prog [("errors.errorType", Rows.laid_errors_errorType)] W := h
  obtain ⟨name, u, ty, e1, e2, e3, e4, e5⟩ := h'.2 _ (List.mem_singleton.2 rfl)
  have en : name = [101, 114, 114, 111, 114] := (Option.some.inj e1).symm
  subst en
  obtain rfl := Option.some.inj (laid_rt.symm.trans e2)
  have hm : ty ∈ (List.range Tryd.prog.types.size).filter fun t => Tryd.prog.rowNamed t [101, 114, 114, 111, 114] := List.mem_filter.2 ⟨List.mem_range.2 e3, e4⟩
  rw [laid_row] at hm
  obtain rfl := List.mem_singleton.1 hm
  have hh : typeHandle Tryd.prog 29 = .pointer (some ⟨2, 29, none⟩) := by kernel_rfl
  rw [hh] at e5
  have := World.var?_cell laid_et e5 0
  unfold Hdl
  simpa using this
/-- A world that meets the condition. -/
noncomputable def laidWorld (os : Os) : World :=
  let w0 := World.holding Tryd.prog os ⟨#[], #[], []⟩
  { w0 with heap := w0.heap.modify 0 fun
      | .cells _ t frozen => .cells #[.iface 224 (.agg #[.pointer (some ⟨2, 29, none⟩)])] t frozen
      | o => o }
theorem laidWorld_met (os : Os) (args : Array Value) : laidMetH Tryd.prog [("errors.errorType", Rows.laid_errors_errorType)] ((laidWorld os).forCall (fun _ _ => 0) ⟨#[], args, []⟩).memory :=
  laidMetH_of_parts (laidMet_nil _ _) (by kernel_rfl)
end Go.Proofs.YtgokmldngnmmhaaDoor
