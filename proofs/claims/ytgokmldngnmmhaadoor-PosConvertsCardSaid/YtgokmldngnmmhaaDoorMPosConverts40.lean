/- Several texts of the proof, one behind the other: PosF, PosG. -/
import Derived.Test.YtgokmldngnmmhaaDoorMPosConverts35
import Derived.Test.YtgokmldngnmmhaaDoorMPosConverts37
import Derived.Test.YtgokmldngnmmhaaDoorMPosConverts24
import Derived.Test.YtgokmldngnmmhaaDoorMPosConverts39
import Derived.BigQuiet
import Derived.Deep.QuietTactic
/- pos.Convert, pos.Spot, pos.Place, whatever is asked. -/
namespace Go.Proofs.YtgokmldngnmmhaaDoor
open Go.RowKit Go.Sort
set_option maxRecDepth 100000
/-- A line: what lies ahead of it, it, and what lies behind. -/
structure LnD (n : Int) (R p ln tl : List Int) : Prop where
  eq : R = p ++ (ln ++ tl)
  cn : (cnt p).l = n
  beg : p = [] ∨ ∃ p', p = p' ++ [10]
  nol : (cnt ln).l = 0
  til : tl = [] ∨ ∃ t, tl = 10 :: t
theorem ln_lnd {n : Int} {R : List Int} {c : Cn} (h : Ln n R c) : ∃ p ln tl, LnD n R p ln tl ∧ c = cnt p := by
  obtain ⟨p, q, e1, e2, e3, e4⟩ := h
  by_cases hq : 0 < (cnt q).l
  · obtain ⟨a, b, rfl, ha⟩ := split_nl hq
    exact ⟨p, a, 10 :: b, ⟨e1, e2, e4, ha, .inr ⟨b, rfl⟩⟩, e3⟩
  · have := l_nn q
    exact ⟨p, q, [], ⟨by rw [List.append_nil]; exact e1, e2, e4, by omega, .inl rfl⟩, e3⟩
theorem LnD.ln {n : Int} {R p ln tl : List Int} (h : LnD n R p ln tl) : Ln n R (cnt p) := ⟨p, ln ++ tl, h.eq, h.cn, rfl, h.beg⟩
theorem nol_cut {a b x y : List Int} (h : a ++ x = b ++ y) (hb : (cnt b).l = 0) (hx : x = [] ∨ ∃ t, x = 10 :: t) (hle : ∃ d, b = a ++ d ∧ x = d ++ y) : a = b ∧ x = y := by
  obtain ⟨d, e1, e2⟩ := hle
  cases d with
  | nil => subst e1 e2; exact ⟨(List.append_nil _).symm, rfl⟩
  | cons r d =>
    exfalso
    rcases hx with rfl | ⟨t, rfl⟩
    · cases e2
    · rw [List.cons_append] at e2
      obtain ⟨rfl, -⟩ := List.cons.inj e2
      rw [e1, cnt_app_l, show ((10 : Int) :: d) = [10] ++ d from rfl, cnt_app_l, cnt_one_l, if_pos rfl] at hb
      have := l_nn a
      have := l_nn d
      omega
theorem LnD.unique {n : Int} {R p ln tl p' ln' tl' : List Int} (h : LnD n R p ln tl) (h' : LnD n R p' ln' tl') : p = p' ∧ ln = ln' := by
  have e := h.ln.unique h'.ln
  have e2 := h.eq.symm.trans h'.eq
  have e3 : bl p = bl p' := by
    have := congrArg Cn.b e
    rw [cnt_b, cnt_b] at this
    omega
  obtain ⟨rfl, e4⟩ := bl_unique e2 e3
  refine ⟨rfl, ?_⟩
  rcases pre_le e4 with ⟨d, h1, h2⟩ | ⟨d, h1, h2⟩
  · exact (nol_cut e4 h'.nol h.til ⟨d, h1, h2⟩).1
  · exact (nol_cut e4.symm h.nol h'.til ⟨d, h1, h2⟩).1.symm
theorem AheadR.pl {u at_ : Int} {R : List Int} {c : Cn} (h : AheadR u at_ R c .nilIface) : Pl u at_ R c := h.nil
/-- Ahead within a line. -/
theorem ahead_line {u n col : Int} {R p ln tl : List Int} {c : Cn} {er : Value} (hu : 1 ≤ u ∧ u ≤ 3) (D : LnD n R p ln tl) (hc : 0 ≤ col ∧ col ≤ (cnt ln).of u) (h : AheadR u ((cnt p).of u + col) R c er) : ∃ c', AheadR u col ln c' er := by
  have hR := D.eq
  have hin : ¬ ((cnt p).of u + col < 0 ∨ (cnt R).of u < (cnt p).of u + col) := by
    rw [hR, cnt_app_of, cnt_app_of]
    have := of_nn p u
    have := of_nn tl u
    omega
  rcases h.2.2 (by omega) hin with ⟨rfl, hp⟩ | ⟨rfl, rfl, hno⟩
  · rw [hR] at hp
    obtain ⟨d, q, e1, rfl, hd⟩ := pl_behind rfl hc.1 hu hp
    have key : ∃ x, ln = d ++ x := by
      rcases pre_le e1 with ⟨x, h1, h2⟩ | ⟨x, h1, h2⟩
      · have : (cnt x).of u = 0 := by
          have := of_nn x u
          rw [h1, cnt_app_of] at hd
          omega
        have h3 : x = [] := by
          have := of_len x hu
          exact List.length_eq_zero_iff.1 (by omega)
        subst h3
        exact ⟨[], by rw [h1, List.append_nil, List.append_nil]⟩
      · exact ⟨x, h1⟩
    obtain ⟨x, hx⟩ := key
    exact ⟨cnt d, Pl.ahead hu ⟨d, x, hx, hd, rfl⟩⟩
  · refine ⟨Cn.zero, fun e => by omega, fun _ e => by omega, fun _ _ => .inr ⟨rfl, rfl, ?_⟩⟩
    rintro c' ⟨d, x, e1, e2, rfl⟩
    refine hno (cnt (p ++ d)) ⟨p ++ d, x ++ tl, ?_, ?_, rfl⟩
    · rw [hR, e1]; simp
    · rw [cnt_app_of, e2]
def ConvR (u v at_ : Int) (R : List Int) (x : Int) (er : Value) : Prop :=
  ((v < 1 ∨ 3 < v) → x = 0 ∧ er = errno 1) ∧ (¬ (v < 1 ∨ 3 < v) → ∃ c, AheadR u at_ R c er ∧ x = c.of v)
def ConvG (u v at_ : Int) (R : List Int) (w : World) (e : Ending) (w' : World) : Prop := Below w.heap.size w w' ∧ ∃ x er, e = .returned (.tuple #[.int .i64 x, er]) ∧ ConvR u v at_ R x er
def SpotR (u at_ : Int) (R : List Int) (l col : Int) (er : Value) : Prop :=
  ∃ c, AheadR u at_ R c er ∧ (er = .nilIface → ∃ lc, Ln c.l R lc ∧ l = c.l ∧ col = c.of u - lc.of u) ∧ (er ≠ .nilIface → l = 0 ∧ col = 0)
theorem SpotR.unique {u at_ l col l' col' : Int} {R : List Int} {er er' : Value} (h : SpotR u at_ R l col er) (h' : SpotR u at_ R l' col' er') : l = l' ∧ col = col' ∧ er = er' := by
  obtain ⟨c, h1, h2, h3⟩ := h
  obtain ⟨c', k1, k2, k3⟩ := h'
  obtain ⟨rfl, rfl⟩ := h1.unique k1
  by_cases e : er = .nilIface
  · obtain ⟨lc, a1, a2, a3⟩ := h2 e
    obtain ⟨lc', b1, b2, b3⟩ := k2 e
    obtain rfl := a1.unique b1
    exact ⟨a2.trans b2.symm, a3.trans b3.symm, rfl⟩
  · exact ⟨(h3 e).1.trans (k3 e).1.symm, (h3 e).2.trans (k3 e).2.symm, rfl⟩
def SpotG (u at_ : Int) (R : List Int) (w : World) (e : Ending) (w' : World) : Prop := Below w.heap.size w w' ∧ ∃ l col er, e = .returned (.tuple #[.agg #[.int .i64 l, .int .i64 col], er]) ∧ SpotR u at_ R l col er
def PlaceR (u n col : Int) (R : List Int) (x : Int) (er : Value) : Prop :=
  ((u < 1 ∨ 3 < u) → x = 0 ∧ er = errno 1) ∧ (¬ (u < 1 ∨ 3 < u) → (n < 0 ∨ (cnt R).l < n) → x = 0 ∧ er = errno 2) ∧
  (¬ (u < 1 ∨ 3 < u) → ¬ (n < 0 ∨ (cnt R).l < n) → ∃ p ln tl, LnD n R p ln tl ∧ ((col < 0 ∨ (cnt ln).of u < col) → x = 0 ∧ er = errno 2) ∧
    (¬ (col < 0 ∨ (cnt ln).of u < col) → ∃ c, AheadR u col ln c er ∧ (er = .nilIface → x = (cnt p).of u + col) ∧ (er ≠ .nilIface → x = 0)))
theorem PlaceR.unique {u n col x x' : Int} {R : List Int} {er er' : Value} (h : PlaceR u n col R x er) (h' : PlaceR u n col R x' er') : x = x' ∧ er = er' := by
  obtain ⟨h1, h2, h3⟩ := h
  obtain ⟨k1, k2, k3⟩ := h'
  by_cases hu : u < 1 ∨ 3 < u
  · exact ⟨(h1 hu).1.trans (k1 hu).1.symm, (h1 hu).2.trans (k1 hu).2.symm⟩
  · by_cases hn : n < 0 ∨ (cnt R).l < n
    · exact ⟨(h2 hu hn).1.trans (k2 hu hn).1.symm, (h2 hu hn).2.trans (k2 hu hn).2.symm⟩
    · obtain ⟨p, ln, tl, D, a1, a2⟩ := h3 hu hn
      obtain ⟨p', ln', tl', D', b1, b2⟩ := k3 hu hn
      obtain ⟨rfl, rfl⟩ := D.unique D'
      by_cases hc : col < 0 ∨ (cnt ln).of u < col
      · exact ⟨(a1 hc).1.trans (b1 hc).1.symm, (a1 hc).2.trans (b1 hc).2.symm⟩
      · obtain ⟨c, c1, c2, c3⟩ := a2 hc
        obtain ⟨c', d1, d2, d3⟩ := b2 hc
        obtain ⟨-, rfl⟩ := c1.unique d1
        by_cases e : er = .nilIface
        · exact ⟨(c2 e).trans (d2 e).symm, rfl⟩
        · exact ⟨(c3 e).trans (d3 e).symm, rfl⟩
def PlaceG (u n col : Int) (R : List Int) (w : World) (e : Ending) (w' : World) : Prop := Below w.heap.size w w' ∧ ∃ x er, e = .returned (.tuple #[.int .i64 x, er]) ∧ PlaceR u n col R x er
section
attribute [local go_sem] Cn.v_eq
set_option maxHeartbeats 4000000 in
theorem convert_gen {p : Nat} {t : RT} {w : World} {u v at_ : Int} (h : AtR w p t) (hg : Good t) :
    Calls Tryd.prog 50 #[.pointer (some ⟨p, 0, none⟩), .int .i64 u, .int .i64 v, .int .i64 at_] w (ConvG u v at_ t.runes w) := by
  have HA := Hd.mk (ahead_calls (u := u) (at_ := at_) h hg)
  clear h hg
  by_cases hv : v < 1 ∨ 3 < v
  · have HV := Hd.mk hv
    by_cases i1 : v < 1
    · clear hv
      go_enter Tryd.func50, Tryd.ntmps50
      go_wp2_with fail
      go_ret2
      exact ⟨Below.refl _ _, 0, errno 1, rfl, fun _ => ⟨rfl, rfl⟩, fun h => absurd HV.out h⟩
    · have i2 : 3 < v := by omega
      clear hv
      go_enter Tryd.func50, Tryd.ntmps50
      go_wp2_with fail
      go_ret2
      exact ⟨Below.refl _ _, 0, errno 1, rfl, fun _ => ⟨rfl, rfl⟩, fun h => absurd HV.out h⟩
  have HNV := Hd.mk hv
  have i1 : ¬ v < 1 := by omega
  have i2 : ¬ 3 < v := by omega
  clear hv
  go_enter Tryd.func50, Tryd.ntmps50
  go_wp2_with fail
  refine HA.out.mono ?_
  rintro e w1 ⟨hb, c, er, rfl, hr⟩
  have HB := Hd.mk hb
  have HRR := Hd.mk hr
  have hcs := ahead_cases hr
  clear hb hr
  rcases hcs with ⟨rfl, hp, -, -⟩ | ⟨k, rfl, rfl, hk, hno⟩
  · have HP := Hd.mk hp
    clear hp
    go_wp2_with (go_at_call 60; refine (in_calls c v _).mono ?_; rintro e w2 ⟨rfl, hb2⟩; have HB2 := Hd.mk hb2; clear hb2)
    go_ret2
    exact ⟨bstep (ex_alloc HB.out _) HB2.out, _, _, rfl, fun h => absurd h HNV.out, fun _ => ⟨c, HRR.out, rfl⟩⟩
  · have HK := Hd.mk hk
    have HNO := Hd.mk hno
    clear hk hno
    unfold errno
    go_wp2_with fail
    go_ret2
    exact ⟨ex_alloc HB.out _, _, _, rfl, fun h => absurd h HNV.out, fun _ => ⟨Cn.zero, HRR.out, by rw [of_zero]⟩⟩
set_option maxHeartbeats 4000000 in
theorem spot_gen {p : Nat} {t : RT} {w : World} {u at_ : Int} (h : AtR w p t) (hg : Good t) :
    Calls Tryd.prog 52 #[.pointer (some ⟨p, 0, none⟩), .int .i64 u, .int .i64 at_] w (SpotG u at_ t.runes w) := by
  have HA := Hd.mk (fun w1 (hb : Below w.heap.size w w1) => ahead_calls (u := u) (at_ := at_) (h.below hb) hg)
  have HL := Hd.mk (fun n w1 (hb : Below w.heap.size w w1) => line_calls (n := n) (h.below hb) hg)
  have HTL : Hd (t.runes.length ≤ 8000) := ⟨by have := bl_len t.runes; have := hg.sz; omega⟩
  clear h hg
  go_enter Tryd.func52, Tryd.ntmps52
  go_wp2_with fail
  refine (HA.out _ (ex_alloc (Below.refl _ _) _)).mono ?_
  rintro e w1 ⟨hb, c, er, rfl, hr⟩
  have hR1 : Blk w1 w.heap.size 91 #[.int .i64 0, .int .i64 0] := (Blk.new w 91 _).below hb (by simp)
  have HB := Hd.mk (bstep (ex_alloc (Below.refl _ _) _) hb)
  have HR1 := Hd.mk hR1
  have r0 := hR1.cell 0
  have r1 := hR1.cell 1
  have rf := hR1.frozen
  have rl := hR1.lt
  simp only [List.getElem?_toArray, List.getElem?_cons_zero, List.getElem?_cons_succ] at r0 r1
  have hcs := ahead_cases hr
  have HRR := Hd.mk hr
  clear hb hr hR1
  rcases hcs with ⟨rfl, hp, -, -⟩ | ⟨k, rfl, rfl, hk, hno⟩
  · have HP := Hd.mk hp
    have hcl := hp.l
    have HCL := Hd.mk hcl
    have hco := hp.of_le HTL.out u
    clear hp hcl
    go_wp2_with fail
    refine (HL.out _ _ (ex_alloc HB.out _)).mono ?_
    rintro e w2 ⟨hb2, lc, er, rfl, hr2⟩
    obtain ⟨rfl, hln⟩ := hr2.2 (by have := HCL.out; omega)
    have hlo := hln.of_le HTL.out u
    have HLN := Hd.mk hln
    have HB2 := Hd.mk (bstep (ex_alloc HB.out _) hb2)
    have hc2 : CnBlk w2 w1.heap.size c := CnBlk.below (heap_alloc_new w1 _) hb2 (by simp)
    have hR2 : Blk w2 w.heap.size 91 #[.int .i64 0, .int .i64 0] := (HR1.out.alloc _).below hb2 (by simp; omega)
    have hne : w.heap.size ≠ w1.heap.size := by omega
    clear r0 r1 rf rl
    obtain ⟨q0, q1, q2, q3⟩ := hc2.cells
    have ql := hc2.lt
    have r0 := hR2.cell 0
    have r1 := hR2.cell 1
    have rf := hR2.frozen
    have rl := hR2.lt
    simp only [List.getElem?_toArray, List.getElem?_cons_zero, List.getElem?_cons_succ] at r0 r1
    have HR2 := Hd.mk hR2
    have HC2 := Hd.mk hc2
    clear hb2 hr2 hln hc2 hR2
    have hl2 : CnBlk (w2.alloc (.cells #[.int .i64 lc.b, .int .i64 lc.h, .int .i64 lc.r, .int .i64 lc.l] 36)) w2.heap.size lc := heap_alloc_new w2 _
    have HLW := Hd.mk hl2
    have HCW : Hd (CnBlk (w2.alloc (.cells #[.int .i64 lc.b, .int .i64 lc.h, .int .i64 lc.r, .int .i64 lc.l] 36)) w1.heap.size c) := ⟨HC2.out.below (ex_alloc (Below.refl _ _) _) HC2.out.lt⟩
    have HRW : Hd (Blk (w2.alloc (.cells #[.int .i64 lc.b, .int .i64 lc.h, .int .i64 lc.r, .int .i64 lc.l] 36)) w.heap.size 91 #[.int .i64 0, .int .i64 0]) := ⟨HR2.out.alloc _⟩
    have HBW := Hd.mk (ex_alloc HB2.out (.cells #[.int .i64 lc.b, .int .i64 lc.h, .int .i64 lc.r, .int .i64 lc.l] 36))
    have HNE : Hd (w1.heap.size ≠ w.heap.size ∧ w2.heap.size ≠ w.heap.size) := ⟨by omega, by omega⟩
    clear hl2
    go_wp2_with fail
    generalize w2.alloc (.cells #[.int .i64 lc.b, .int .i64 lc.h, .int .i64 lc.r, .int .i64 lc.l] 36) = wc at HLW HCW HRW HBW ⊢
    have HS0 : Hd (SpS wc w.heap.size wc) := ⟨Only.refl _ _, _, _, HRW.out⟩
    generalize hg1 : w1.heap.size = g1 at *
    generalize hg2 : w2.heap.size = g2 at *
    generalize hB : w.heap.size = B at *
    clear r0 r1 rf rl q0 q1 q2 q3 ql hne
    obtain ⟨q0, q1, q2, q3⟩ := HCW.out.cells
    obtain ⟨l0, l1, l2, l3⟩ := HLW.out.cells
    go_region_held3 (fun w' => SpS wc B w' ∧ w'.cell? ⟨g1, 0, none⟩ = some (.int .i64 c.b) ∧ w'.cell? ⟨g1, 1, none⟩ = some (.int .i64 c.h) ∧ w'.cell? ⟨g1, 2, none⟩ = some (.int .i64 c.r) ∧ w'.cell? ⟨g1, 3, none⟩ = some (.int .i64 c.l) ∧ w'.cell? ⟨g2, 0, none⟩ = some (.int .i64 lc.b) ∧ w'.cell? ⟨g2, 1, none⟩ = some (.int .i64 lc.h) ∧ w'.cell? ⟨g2, 2, none⟩ = some (.int .i64 lc.r) ∧ w'.cell? ⟨g2, 3, none⟩ = some (.int .i64 lc.l) ∧ w'.cell? ⟨B, 0, none⟩ = some (cv w' B 0) ∧ w'.cell? ⟨B, 1, none⟩ = some (cv w' B 1) ∧ (∀ i, w'.frozen? ⟨B, i, none⟩ = false) ∧ B < w'.heap.size)
      (first | exact (sp_x HCW.out HLW.out HNE.out.1 HNE.out.2 HS0.out.drew) | exact (sp_x HCW.out HLW.out HNE.out.1 HNE.out.2 (SpS.call (SpX.sp (by assumption)) (by assumption))) | exact (sp_x HCW.out HLW.out HNE.out.1 HNE.out.2 (SpS.store (SpX.sp (by assumption)) _ _)) | assumption)
      (first
        | (go_at_call_of 60 (c.b); refine (in_calls c u _).mono ?_; rintro e w' ⟨rfl, hb'⟩)
        | (go_at_call_of 60 (lc.b); refine (in_calls lc u _).mono ?_; rintro e w' ⟨rfl, hb'⟩))
    all_goals
      have hfin := SpS.store1 (SpS.call (SpS.call HS0.out.drew (by assumption)) hb') (.int .i64 c.l) (.int .i64 (c.of u - lc.of u))
      have HFIN := Hd.mk hfin
      clear hfin
      have hw3 : IntKind.i64.wrap (c.of u - lc.of u) = c.of u - lc.of u := by rw [IntKind.wrap_i64] <;> omega
      rw [hw3]
      generalize ((w'.setCell ⟨B, 0, none⟩ (.int .i64 c.l)).setCell ⟨B, 1, none⟩ (.int .i64 (c.of u - lc.of u))) = wf at HFIN ⊢
      have f0 := HFIN.out.2.cell 0
      have f1 := HFIN.out.2.cell 1
      simp only [List.getElem?_toArray, List.getElem?_cons_zero, List.getElem?_cons_succ] at f0 f1
      clear hw3 hb'
      go_wp2_with fail
      refine bodyPost_ret (v := .tuple #[.agg #[.int .i64 c.l, .int .i64 (c.of u - lc.of u)], .nilIface]) (by simp [results, Tryd.results52, go_sem, f0, f1]) rfl ?_
      refine ⟨?_, _, _, _, rfl, c, HRR.out, fun _ => ⟨lc, HLN.out, rfl, rfl⟩, fun h => absurd rfl h⟩
      subst hB
      exact HBW.out.trans (HFIN.out.1.below HBW.out.size (fun k hk e => by omega))
  · have HK := Hd.mk hk
    have HNO := Hd.mk hno
    clear hk hno
    unfold errno
    go_wp2_with fail
    have hset := (HR1.out.set_ 0 (.int .i64 0)).set_ 1 (.int .i64 0)
    have hbl : Below w.heap.size w ((w1.setCell ⟨w.heap.size, 0, none⟩ (.int .i64 0)).setCell ⟨w.heap.size, 1, none⟩ (.int .i64 0)) := (HB.out.setCell (p := ⟨w.heap.size, 0, none⟩) (Nat.le_refl _) _).setCell (p := ⟨w.heap.size, 1, none⟩) (Nat.le_refl _) _
    have HSET := Hd.mk hset
    have HBL := Hd.mk hbl
    clear hset hbl
    have f0 := (HSET.out.alloc (.cells #[.int .i64 Cn.zero.b, .int .i64 Cn.zero.h, .int .i64 Cn.zero.r, .int .i64 Cn.zero.l] 36)).cell 0
    have f1 := (HSET.out.alloc (.cells #[.int .i64 Cn.zero.b, .int .i64 Cn.zero.h, .int .i64 Cn.zero.r, .int .i64 Cn.zero.l] 36)).cell 1
    simp only [List.setIfInBounds_toArray, List.set_cons_zero, List.set_cons_succ, List.getElem?_toArray, List.getElem?_cons_zero, List.getElem?_cons_succ] at f0 f1
    refine bodyPost_ret (v := .tuple #[.agg #[.int .i64 0, .int .i64 0], errno k]) (by simp [results, Tryd.results52, go_sem, f0, f1, errno]) rfl ?_
    exact ⟨ex_alloc HBL.out _, _, _, _, rfl, Cn.zero, HRR.out, (fun h => by cases h), fun _ => ⟨rfl, rfl⟩⟩
end
end Go.Proofs.YtgokmldngnmmhaaDoor
/- pos.Place, whatever is asked. -/
namespace Go.Proofs.YtgokmldngnmmhaaDoor
open Go.RowKit Go.Sort
set_option maxRecDepth 100000
theorem of_nl {u : Int} (hu : 1 ≤ u ∧ u ≤ 3) : (cnt [10]).of u = 1 := by
  have h : u = 1 ∨ u = 2 ∨ u = 3 := by omega
  rcases h with rfl | rfl | rfl <;> decide
/-- The next line begins behind the line feed. -/
theorem LnD.next {u n : Int} {R p ln tl : List Int} {nx : Cn} (hu : 1 ≤ u ∧ u ≤ 3) (D : LnD n R p ln tl) (hn : n < (cnt R).l) (h : Ln (n + 1) R nx) : nx.of u - 1 = (cnt p).of u + (cnt ln).of u := by
  have hR := D.eq
  rcases D.til with rfl | ⟨t, rfl⟩
  · rw [hR, cnt_app_l, cnt_app_l, D.cn, D.nol, cnt_nil] at hn
    change n < n + (0 + 0) at hn
    omega
  · have e : Ln (n + 1) R (cnt (p ++ ln ++ [10])) := ⟨p ++ ln ++ [10], t, by rw [hR]; simp, by rw [cnt_app_l, cnt_app_l, D.cn, D.nol, cnt_one_l, if_pos rfl]; omega, rfl, .inr ⟨p ++ ln, rfl⟩⟩
    rw [h.unique e, cnt_app_of, cnt_app_of, of_nl hu]
    omega
theorem LnD.last {u n : Int} {R p ln tl : List Int} (D : LnD n R p ln tl) (hn : ¬ n < (cnt R).l) : (cnt R).of u = (cnt p).of u + (cnt ln).of u := by
  have hR := D.eq
  rcases D.til with rfl | ⟨t, rfl⟩
  · rw [hR, cnt_app_of, cnt_app_of, cnt_nil, of_zero]; omega
  · exfalso
    have := l_nn t
    rw [hR, cnt_app_l, cnt_app_l, D.cn, D.nol, show ((10 : Int) :: t) = [10] ++ t from rfl, cnt_app_l, cnt_one_l, if_pos rfl] at hn
    omega
section
attribute [local go_sem] Cn.v_eq field_cn3
set_option maxHeartbeats 8000000 in
theorem place_gen {p : Nat} {t : RT} {w : World} {u n col : Int} (h : AtR w p t) (hg : Good t) :
    Calls Tryd.prog 54 #[.pointer (some ⟨p, 0, none⟩), .int .i64 u, .agg #[.int .i64 n, .int .i64 col]] w (PlaceG u n col t.runes w) := by
  by_cases hu : 1 ≤ u ∧ u ≤ 3
  · have HA := Hd.mk (fun at_ w1 (hb : Below w.heap.size w w1) => ahead_calls (u := u) (at_ := at_) (h.below hb) hg)
    have HL := Hd.mk (fun n w1 (hb : Below w.heap.size w w1) => line_calls (n := n) (h.below hb) hg)
    have HC := Hd.mk (fun w1 (hb : Below w.heap.size w w1) => counts_calls (h.below hb))
    have HU := Hd.mk hu
    have htl : t.runes.length ≤ 8000 := by have := bl_len t.runes; have := hg.sz; omega
    have i1 : ¬ u < 1 := by omega
    have i2 : ¬ 3 < u := by omega
    obtain ⟨tot, htot⟩ : ∃ x, x = cnt t.runes := ⟨_, rfl⟩
    have htb : tot.of u ≤ 32000 := by rw [htot]; have := of_le (rs := t.runes) (n := 8000) htl u; omega
    have htn : 0 ≤ tot.of u := by rw [htot]; exact of_nn _ _
    have hlb : tot.l ≤ 32000 := by rw [htot]; have := l_le (rs := t.runes) (k := 8000) htl; omega
    have HTOT := Hd.mk htot
    have HTL := Hd.mk htl
    obtain ⟨vt, hvt⟩ : ∃ x, x = tot.of u := ⟨_, rfl⟩
    have HVT := Hd.mk hvt
    rw [← hvt] at htb htn
    clear h hg hu htot hvt htl
    go_enter Tryd.func54, Tryd.ntmps54
    go_wp2_with fail
    have hB0 : Blk (w.alloc (.cells #[.int .i64 n, .int .i64 col] 91)) w.heap.size 91 #[.int .i64 n, .int .i64 col] := Blk.new _ _ _
    refine (HL.out n _ (ex_alloc (Below.refl _ _) _)).mono ?_
    rintro e w1 ⟨hb, lc2, er, rfl, hr⟩
    have HB1 := Hd.mk (bstep (ex_alloc (Below.refl _ _) _) hb)
    have HS1 := Hd.mk (hB0.below hb hB0.lt)
    have HRL := Hd.mk hr
    clear hb hr hB0
    by_cases hn : n < 0 ∨ tot.l < n
    · obtain ⟨rfl, rfl⟩ := HRL.out.1 (by rw [← HTOT.out]; exact hn)
      have HN := Hd.mk hn
      clear hn
      unfold errno
      go_wp2_with fail
      go_ret2
      exact ⟨ex_alloc HB1.out _, 0, errno 2, rfl, fun h => absurd h (by have := HU.out; omega), fun _ _ => ⟨rfl, rfl⟩, fun _ h => absurd (by have := HN.out; rw [← HTOT.out]; exact this) h⟩
    · have HNN : Hd (¬ (n < 0 ∨ (cnt t.runes).l < n)) := ⟨by rw [← HTOT.out]; exact hn⟩
      obtain ⟨rfl, hln⟩ := HRL.out.2 HNN.out
      obtain ⟨pp, ln, tl, D, hlc⟩ := ln_lnd hln
      have HD := Hd.mk D
      have HLC := Hd.mk hlc
      obtain ⟨vl, hvl⟩ : ∃ x, x = lc2.of u := ⟨_, rfl⟩
      obtain ⟨le, hle⟩ : ∃ x, x = (cnt ln).of u := ⟨_, rfl⟩
      have HVL := Hd.mk hvl
      have HLE := Hd.mk hle
      have hvl0 : 0 ≤ vl := by rw [hvl, hlc]; exact of_nn _ _
      have hle0 : 0 ≤ le := by rw [hle]; exact of_nn _ _
      have hvb : vl + le ≤ 32000 := by
        have h1 := D.eq
        have h2 : (cnt t.runes).of u = (cnt pp).of u + ((cnt ln).of u + (cnt tl).of u) := by rw [h1, cnt_app_of, cnt_app_of]
        have := of_nn tl u
        have h3 := HVT.out
        rw [HTOT.out] at h3
        rw [hvl, hlc, hle]
        omega
      have hn0 : 0 ≤ n := by omega
      have hn1 : n ≤ tot.l := by omega
      clear hn hln D hlc hvl hle
      go_upto_region 6 with fail
      have hl1 : CnBlk (w1.alloc (.cells #[.int .i64 lc2.b, .int .i64 lc2.h, .int .i64 lc2.r, .int .i64 lc2.l] 36)) w1.heap.size lc2 := heap_alloc_new w1 _
      have HS2 := Hd.mk (HS1.out.alloc (.cells #[.int .i64 lc2.b, .int .i64 lc2.h, .int .i64 lc2.r, .int .i64 lc2.l] 36))
      have HB2 := Hd.mk (ex_alloc HB1.out (.cells #[.int .i64 lc2.b, .int .i64 lc2.h, .int .i64 lc2.r, .int .i64 lc2.l] 36))
      have HL2 := Hd.mk hl1
      generalize w1.alloc (.cells #[.int .i64 lc2.b, .int .i64 lc2.h, .int .i64 lc2.r, .int .i64 lc2.l] 36) = w2 at HS2 HB2 HL2 ⊢
      generalize w1.heap.size = y at HL2 ⊢
      clear hl1 HS1 HB1 w1
      go_upto_region 7 with (first
        | (go_at_call 61; refine (HC.out _ HB2.out).mono ?_; rintro e w3 ⟨rfl, hb3⟩; rw [← HTOT.out]; have HB3 := Hd.mk (bstep HB2.out hb3); have HS3 := Hd.mk (HS2.out.below hb3 HS2.out.lt); have HL3 := Hd.mk (HL2.out.below hb3 HL2.out.lt); clear hb3)
        | (go_at_call 60; refine (in_calls tot u _).mono ?_; rintro e w4 ⟨rfl, hb4⟩; rw [← HVT.out]; have HB4 := Hd.mk (bstep HB3.out hb4); have HS4 := Hd.mk (HS3.out.below hb4 HS3.out.lt); have HL4 := Hd.mk (HL3.out.below hb4 HL3.out.lt); clear hb4))
      have s0 := HS4.out.cell 0
      have s1 := HS4.out.cell 1
      simp only [List.getElem?_toArray, List.getElem?_cons_zero, List.getElem?_cons_succ] at s0 s1
      obtain ⟨l0, l1, l2, l3⟩ := HL4.out.cells
      have ks0 := cell_regrown s0
      have ks1 := cell_regrown s1
      have kl0 := cell_regrown l0
      have kl1 := cell_regrown l1
      have kl2 := cell_regrown l2
      have kl3 := cell_regrown l3
      have hqc : ∀ d os, Calls Tryd.prog 61 #[.pointer (some ⟨p, 0, none⟩)] (grow (redrawn w4 d) os) fun e w'' => e = .returned (.agg #[.int .i64 tot.b, .int .i64 tot.h, .int .i64 tot.r, .int .i64 tot.l]) ∧ ∃ p : Regrown, w'' = grow (redrawn w4 p.d) p.os := fun d os => by rw [HTOT.out]; exact Calls.regrown_of (HC.out _ (bstep HB4.out (below_regrown w4 d os)))
      refine wp_region_quiet_below (by kernel_rfl) (by kernel_rfl) ?_
      repeat (quiet_step (exact hqc _ _))
      refine wpQuiet_nil ?_
      rintro _ ⟨⟨dq5, oq5⟩, rfl⟩
      have hbg5 := below_regrown w4 dq5 oq5
      have HB5 := Hd.mk (bstep HB4.out hbg5)
      have HS5 := Hd.mk (HS4.out.below hbg5 HS4.out.lt)
      have HL5 := Hd.mk (HL4.out.below hbg5 HL4.out.lt)
      generalize grow (redrawn w4 dq5) oq5 = w5 at HB5 HS5 HL5 ⊢
      clear hbg5 ks0 ks1 kl0 kl1 kl2 kl3 hqc s0 s1 l0 l1 l2 l3
      by_cases hnt : n < tot.l
      · have s0 := HS5.out.cell 0
        have sl := HS5.out.lt
        simp only [List.getElem?_toArray, List.getElem?_cons_zero] at s0
        have HNT := Hd.mk hnt
        go_wp2_with fail
        refine (HL.out (n + 1) _ HB5.out).mono ?_
        rintro e w6 ⟨hb6, nx, er6, rfl, hr6⟩
        obtain ⟨rfl, hln6⟩ := hr6.2 (by rw [← HTOT.out]; omega)
        have HEE : Hd (nx.of u - 1 = vl + le) := ⟨by rw [HVL.out, HLC.out, HLE.out]; exact HD.out.next HU.out (by rw [← HTOT.out]; exact HNT.out) hln6⟩
        have HB6 := Hd.mk (bstep HB5.out hb6)
        have HS6 := Hd.mk (HS5.out.below hb6 HS5.out.lt)
        have HL6 := Hd.mk (HL5.out.below hb6 HL5.out.lt)
        clear hb6 hr6 hln6 s0 sl
        go_upto_region 10 with (go_at_call 60; refine (in_calls nx u _).mono ?_; rintro e w7 ⟨rfl, hb7⟩; have HB7 := Hd.mk (bstep (ex_alloc HB6.out _) hb7); have HS7 := Hd.mk ((HS6.out.alloc _).below hb7 (by simp; have := HS6.out.lt; omega)); have HL7 := Hd.mk (CnBlk.below (Blk.alloc (t := 36) HL6.out _) hb7 (by simp; have := HL6.out.lt; omega)); have hxx : nx.of u ≤ 33000 := (by have := HEE.out; omega); have hxy : 1 ≤ nx.of u := (by have := HEE.out; omega); clear hb7)
        generalize nx.of u = vn at *
        have hEW : (vn - 1) = vl + le := HEE.out
        have hw1 : IntKind.i64.wrap ((vn - 1) - vl) = le := by rw [hEW, IntKind.wrap_i64] <;> omega
        clear hEW
        by_cases hc0 : col < 0
        · have HCB : Hd (col < 0 ∨ le < col) := ⟨.inl hc0⟩
          have d1 : decide (col < 0) = true := decide_eq_true hc0
          clear hc0
          go_wp2_with fail
          obtain ⟨s0, s1⟩ : w7.cell? ⟨w.heap.size, 0, none⟩ = some (.int .i64 n) ∧ w7.cell? ⟨w.heap.size, 1, none⟩ = some (.int .i64 col) := by
            have s0 := HS7.out.cell 0
            have s1 := HS7.out.cell 1
            simp only [List.getElem?_toArray, List.getElem?_cons_zero, List.getElem?_cons_succ] at s0 s1
            exact ⟨s0, s1⟩
          go_quiet (fail)
          go_wp2_with fail
          go_ret2
          exact ⟨ex_drewN nq HB7.out, 0, errno 2, rfl, fun h => absurd h (by have := HU.out; omega), fun _ h => absurd h HNN.out, fun _ _ => ⟨_, _, _, HD.out, fun _ => ⟨rfl, rfl⟩, fun h => absurd (by have := HCB.out; have := HLE.out; omega) h⟩⟩
        · by_cases hc1 : le < col
          · have HCB : Hd (col < 0 ∨ le < col) := ⟨.inr hc1⟩
            have d1 : decide (col < 0) = false := decide_eq_false hc0
            go_wp2_with fail
            have s0 := HS7.out.cell 0
            have s1 := HS7.out.cell 1
            simp only [List.getElem?_toArray, List.getElem?_cons_zero, List.getElem?_cons_succ] at s0 s1
            obtain ⟨l0, l1, l2, l3⟩ := HL7.out.cells
            have ks0 := cell_regrown s0
            have ks1 := cell_regrown s1
            have kl0 := cell_regrown l0
            have kl1 := cell_regrown l1
            have kl2 := cell_regrown l2
            have kl3 := cell_regrown l3
            have hqc : ∀ d os, Calls Tryd.prog 60 #[.agg #[.int .i64 lc2.b, .int .i64 lc2.h, .int .i64 lc2.r, .int .i64 lc2.l], .int .i64 u] (grow (redrawn w7 d) os) fun e w'' => e = .returned (.int .i64 vl) ∧ ∃ p : Regrown, w'' = grow (redrawn w7 p.d) p.os := fun d os => by rw [HVL.out]; exact Calls.regrown_of (in_calls lc2 u _)
            refine wp_region_quiet_below (by kernel_rfl) (by kernel_rfl) ?_
            repeat (quiet_step (exact hqc _ _))
            refine wpQuiet_nil ?_
            rintro _ ⟨⟨dqa, oqa⟩, rfl⟩
            have hbga := below_regrown w7 dqa oqa
            have HBa := Hd.mk (bstep HB7.out hbga)
            have HSa := Hd.mk (HS7.out.below hbga HS7.out.lt)
            have HLa := Hd.mk (HL7.out.below hbga HL7.out.lt)
            generalize grow (redrawn w7 dqa) oqa = wa at HBa HSa HLa ⊢
            clear hbga ks0 ks1 kl0 kl1 kl2 kl3 hqc s0 s1 l0 l1 l2 l3
            go_wp2_with fail
            go_ret2
            exact ⟨HBa.out, 0, errno 2, rfl, fun h => absurd h (by have := HU.out; omega), fun _ h => absurd h HNN.out, fun _ _ => ⟨_, _, _, HD.out, fun _ => ⟨rfl, rfl⟩, fun h => absurd (by have := HCB.out; have := HLE.out; omega) h⟩⟩
          · have d1 : decide (col < 0) = false := decide_eq_false hc0
            have HCC : Hd (0 ≤ col ∧ col ≤ le) := ⟨by omega, by omega⟩
            have hw2 : IntKind.i64.wrap (vl + col) = vl + col := by rw [IntKind.wrap_i64] <;> omega
            go_wp2_with fail
            have s0 := HS7.out.cell 0
            have s1 := HS7.out.cell 1
            simp only [List.getElem?_toArray, List.getElem?_cons_zero, List.getElem?_cons_succ] at s0 s1
            obtain ⟨l0, l1, l2, l3⟩ := HL7.out.cells
            have ks0 := cell_regrown s0
            have ks1 := cell_regrown s1
            have kl0 := cell_regrown l0
            have kl1 := cell_regrown l1
            have kl2 := cell_regrown l2
            have kl3 := cell_regrown l3
            have hqc : ∀ d os, Calls Tryd.prog 60 #[.agg #[.int .i64 lc2.b, .int .i64 lc2.h, .int .i64 lc2.r, .int .i64 lc2.l], .int .i64 u] (grow (redrawn w7 d) os) fun e w'' => e = .returned (.int .i64 vl) ∧ ∃ p : Regrown, w'' = grow (redrawn w7 p.d) p.os := fun d os => by rw [HVL.out]; exact Calls.regrown_of (in_calls lc2 u _)
            refine wp_region_quiet_below (by kernel_rfl) (by kernel_rfl) ?_
            repeat (quiet_step (exact hqc _ _))
            refine wpQuiet_nil ?_
            rintro _ ⟨⟨dqa, oqa⟩, rfl⟩
            have hbga := below_regrown w7 dqa oqa
            have HBa := Hd.mk (bstep HB7.out hbga)
            have HSa := Hd.mk (HS7.out.below hbga HS7.out.lt)
            have HLa := Hd.mk (HL7.out.below hbga HL7.out.lt)
            generalize grow (redrawn w7 dqa) oqa = wa at HBa HSa HLa ⊢
            clear hbga ks0 ks1 kl0 kl1 kl2 kl3 hqc s0 s1 l0 l1 l2 l3
            go_wp2_with fail
            have s0 := HSa.out.cell 0
            have s1 := HSa.out.cell 1
            simp only [List.getElem?_toArray, List.getElem?_cons_zero, List.getElem?_cons_succ] at s0 s1
            obtain ⟨l0, l1, l2, l3⟩ := HLa.out.cells
            have ks0 := cell_regrown s0
            have ks1 := cell_regrown s1
            have kl0 := cell_regrown l0
            have kl1 := cell_regrown l1
            have kl2 := cell_regrown l2
            have kl3 := cell_regrown l3
            have hqc : ∀ d os, Calls Tryd.prog 60 #[.agg #[.int .i64 lc2.b, .int .i64 lc2.h, .int .i64 lc2.r, .int .i64 lc2.l], .int .i64 u] (grow (redrawn wa d) os) fun e w'' => e = .returned (.int .i64 vl) ∧ ∃ p : Regrown, w'' = grow (redrawn wa p.d) p.os := fun d os => by rw [HVL.out]; exact Calls.regrown_of (in_calls lc2 u _)
            refine wp_region_quiet_below (by kernel_rfl) (by kernel_rfl) ?_
            repeat (quiet_step (exact hqc _ _))
            refine wpQuiet_nil ?_
            rintro _ ⟨⟨dqb, oqb⟩, rfl⟩
            have hbgb := below_regrown wa dqb oqb
            have HBb := Hd.mk (bstep HBa.out hbgb)
            have HSb := Hd.mk (HSa.out.below hbgb HSa.out.lt)
            have HLb := Hd.mk (HLa.out.below hbgb HLa.out.lt)
            generalize grow (redrawn wa dqb) oqb = wb at HBb HSb HLb ⊢
            clear hbgb ks0 ks1 kl0 kl1 kl2 kl3 hqc s0 s1 l0 l1 l2 l3
            go_wp2_with fail
            refine (HA.out (vl + col) _ HBb.out).mono ?_
            rintro e w9 ⟨hb9, c9, er9, rfl, hr9⟩
            have HB9 := Hd.mk (bstep HBb.out hb9)
            have hcs := ahead_cases hr9
            have HAL : Hd (∃ c', AheadR u col ln c' er9) := ⟨by
              rw [HVL.out, HLC.out] at hr9
              exact ahead_line HU.out HD.out (by have := HCC.out; have := HLE.out; omega) hr9⟩
            clear hb9 hr9
            rcases hcs with ⟨rfl, -⟩ | ⟨k, rfl, rfl, -⟩
            · go_wp2_with fail
              go_ret2
              obtain ⟨c', hc'⟩ := HAL.out
              exact ⟨ex_alloc HB9.out _, _, .nilIface, rfl, fun h => absurd h (by have := HU.out; omega), fun _ h => absurd h HNN.out, fun _ _ => ⟨_, _, _, HD.out, fun h => absurd h (by have := HCC.out; have := HLE.out; omega), fun _ => ⟨c', hc', fun _ => by rw [HVL.out, HLC.out], fun h => absurd rfl h⟩⟩⟩
            · unfold errno
              go_wp2_with fail
              go_ret2
              obtain ⟨c', hc'⟩ := HAL.out
              exact ⟨ex_alloc HB9.out _, _, errno k, rfl, fun h => absurd h (by have := HU.out; omega), fun _ h => absurd h HNN.out, fun _ _ => ⟨_, _, _, HD.out, fun h => absurd h (by have := HCC.out; have := HLE.out; omega), fun _ => ⟨c', hc', (fun h => by cases h), fun _ => rfl⟩⟩⟩
      · have HEE : Hd (vt = vl + le) := ⟨by rw [HVL.out, HLC.out, HLE.out, HVT.out, HTOT.out]; exact HD.out.last (by rw [← HTOT.out]; exact hnt)⟩
        have hEW : vt = vl + le := HEE.out
        have hw1 : IntKind.i64.wrap (vt - vl) = le := by rw [hEW, IntKind.wrap_i64] <;> omega
        clear hEW
        by_cases hc0 : col < 0
        · have HCB : Hd (col < 0 ∨ le < col) := ⟨.inl hc0⟩
          have d1 : decide (col < 0) = true := decide_eq_true hc0
          clear hc0
          go_wp2_with fail
          obtain ⟨s0, s1⟩ : w5.cell? ⟨w.heap.size, 0, none⟩ = some (.int .i64 n) ∧ w5.cell? ⟨w.heap.size, 1, none⟩ = some (.int .i64 col) := by
            have s0 := HS5.out.cell 0
            have s1 := HS5.out.cell 1
            simp only [List.getElem?_toArray, List.getElem?_cons_zero, List.getElem?_cons_succ] at s0 s1
            exact ⟨s0, s1⟩
          go_quiet (fail)
          go_wp2_with fail
          go_ret2
          exact ⟨ex_drewN nq HB5.out, 0, errno 2, rfl, fun h => absurd h (by have := HU.out; omega), fun _ h => absurd h HNN.out, fun _ _ => ⟨_, _, _, HD.out, fun _ => ⟨rfl, rfl⟩, fun h => absurd (by have := HCB.out; have := HLE.out; omega) h⟩⟩
        · by_cases hc1 : le < col
          · have HCB : Hd (col < 0 ∨ le < col) := ⟨.inr hc1⟩
            have d1 : decide (col < 0) = false := decide_eq_false hc0
            go_wp2_with fail
            have s0 := HS5.out.cell 0
            have s1 := HS5.out.cell 1
            simp only [List.getElem?_toArray, List.getElem?_cons_zero, List.getElem?_cons_succ] at s0 s1
            obtain ⟨l0, l1, l2, l3⟩ := HL5.out.cells
            have ks0 := cell_regrown s0
            have ks1 := cell_regrown s1
            have kl0 := cell_regrown l0
            have kl1 := cell_regrown l1
            have kl2 := cell_regrown l2
            have kl3 := cell_regrown l3
            have hqc : ∀ d os, Calls Tryd.prog 60 #[.agg #[.int .i64 lc2.b, .int .i64 lc2.h, .int .i64 lc2.r, .int .i64 lc2.l], .int .i64 u] (grow (redrawn w5 d) os) fun e w'' => e = .returned (.int .i64 vl) ∧ ∃ p : Regrown, w'' = grow (redrawn w5 p.d) p.os := fun d os => by rw [HVL.out]; exact Calls.regrown_of (in_calls lc2 u _)
            refine wp_region_quiet_below (by kernel_rfl) (by kernel_rfl) ?_
            repeat (quiet_step (exact hqc _ _))
            refine wpQuiet_nil ?_
            rintro _ ⟨⟨dqa, oqa⟩, rfl⟩
            have hbga := below_regrown w5 dqa oqa
            have HBa := Hd.mk (bstep HB5.out hbga)
            have HSa := Hd.mk (HS5.out.below hbga HS5.out.lt)
            have HLa := Hd.mk (HL5.out.below hbga HL5.out.lt)
            generalize grow (redrawn w5 dqa) oqa = wa at HBa HSa HLa ⊢
            clear hbga ks0 ks1 kl0 kl1 kl2 kl3 hqc s0 s1 l0 l1 l2 l3
            go_wp2_with fail
            go_ret2
            exact ⟨HBa.out, 0, errno 2, rfl, fun h => absurd h (by have := HU.out; omega), fun _ h => absurd h HNN.out, fun _ _ => ⟨_, _, _, HD.out, fun _ => ⟨rfl, rfl⟩, fun h => absurd (by have := HCB.out; have := HLE.out; omega) h⟩⟩
          · have d1 : decide (col < 0) = false := decide_eq_false hc0
            have HCC : Hd (0 ≤ col ∧ col ≤ le) := ⟨by omega, by omega⟩
            have hw2 : IntKind.i64.wrap (vl + col) = vl + col := by rw [IntKind.wrap_i64] <;> omega
            go_wp2_with fail
            have s0 := HS5.out.cell 0
            have s1 := HS5.out.cell 1
            simp only [List.getElem?_toArray, List.getElem?_cons_zero, List.getElem?_cons_succ] at s0 s1
            obtain ⟨l0, l1, l2, l3⟩ := HL5.out.cells
            have ks0 := cell_regrown s0
            have ks1 := cell_regrown s1
            have kl0 := cell_regrown l0
            have kl1 := cell_regrown l1
            have kl2 := cell_regrown l2
            have kl3 := cell_regrown l3
            have hqc : ∀ d os, Calls Tryd.prog 60 #[.agg #[.int .i64 lc2.b, .int .i64 lc2.h, .int .i64 lc2.r, .int .i64 lc2.l], .int .i64 u] (grow (redrawn w5 d) os) fun e w'' => e = .returned (.int .i64 vl) ∧ ∃ p : Regrown, w'' = grow (redrawn w5 p.d) p.os := fun d os => by rw [HVL.out]; exact Calls.regrown_of (in_calls lc2 u _)
            refine wp_region_quiet_below (by kernel_rfl) (by kernel_rfl) ?_
            repeat (quiet_step (exact hqc _ _))
            refine wpQuiet_nil ?_
            rintro _ ⟨⟨dqa, oqa⟩, rfl⟩
            have hbga := below_regrown w5 dqa oqa
            have HBa := Hd.mk (bstep HB5.out hbga)
            have HSa := Hd.mk (HS5.out.below hbga HS5.out.lt)
            have HLa := Hd.mk (HL5.out.below hbga HL5.out.lt)
            generalize grow (redrawn w5 dqa) oqa = wa at HBa HSa HLa ⊢
            clear hbga ks0 ks1 kl0 kl1 kl2 kl3 hqc s0 s1 l0 l1 l2 l3
            go_wp2_with fail
            have s0 := HSa.out.cell 0
            have s1 := HSa.out.cell 1
            simp only [List.getElem?_toArray, List.getElem?_cons_zero, List.getElem?_cons_succ] at s0 s1
            obtain ⟨l0, l1, l2, l3⟩ := HLa.out.cells
            have ks0 := cell_regrown s0
            have ks1 := cell_regrown s1
            have kl0 := cell_regrown l0
            have kl1 := cell_regrown l1
            have kl2 := cell_regrown l2
            have kl3 := cell_regrown l3
            have hqc : ∀ d os, Calls Tryd.prog 60 #[.agg #[.int .i64 lc2.b, .int .i64 lc2.h, .int .i64 lc2.r, .int .i64 lc2.l], .int .i64 u] (grow (redrawn wa d) os) fun e w'' => e = .returned (.int .i64 vl) ∧ ∃ p : Regrown, w'' = grow (redrawn wa p.d) p.os := fun d os => by rw [HVL.out]; exact Calls.regrown_of (in_calls lc2 u _)
            refine wp_region_quiet_below (by kernel_rfl) (by kernel_rfl) ?_
            repeat (quiet_step (exact hqc _ _))
            refine wpQuiet_nil ?_
            rintro _ ⟨⟨dqb, oqb⟩, rfl⟩
            have hbgb := below_regrown wa dqb oqb
            have HBb := Hd.mk (bstep HBa.out hbgb)
            have HSb := Hd.mk (HSa.out.below hbgb HSa.out.lt)
            have HLb := Hd.mk (HLa.out.below hbgb HLa.out.lt)
            generalize grow (redrawn wa dqb) oqb = wb at HBb HSb HLb ⊢
            clear hbgb ks0 ks1 kl0 kl1 kl2 kl3 hqc s0 s1 l0 l1 l2 l3
            go_wp2_with fail
            refine (HA.out (vl + col) _ HBb.out).mono ?_
            rintro e w9 ⟨hb9, c9, er9, rfl, hr9⟩
            have HB9 := Hd.mk (bstep HBb.out hb9)
            have hcs := ahead_cases hr9
            have HAL : Hd (∃ c', AheadR u col ln c' er9) := ⟨by
              rw [HVL.out, HLC.out] at hr9
              exact ahead_line HU.out HD.out (by have := HCC.out; have := HLE.out; omega) hr9⟩
            clear hb9 hr9
            rcases hcs with ⟨rfl, -⟩ | ⟨k, rfl, rfl, -⟩
            · go_wp2_with fail
              go_ret2
              obtain ⟨c', hc'⟩ := HAL.out
              exact ⟨ex_alloc HB9.out _, _, .nilIface, rfl, fun h => absurd h (by have := HU.out; omega), fun _ h => absurd h HNN.out, fun _ _ => ⟨_, _, _, HD.out, fun h => absurd h (by have := HCC.out; have := HLE.out; omega), fun _ => ⟨c', hc', fun _ => by rw [HVL.out, HLC.out], fun h => absurd rfl h⟩⟩⟩
            · unfold errno
              go_wp2_with fail
              go_ret2
              obtain ⟨c', hc'⟩ := HAL.out
              exact ⟨ex_alloc HB9.out _, _, errno k, rfl, fun h => absurd h (by have := HU.out; omega), fun _ h => absurd h HNN.out, fun _ _ => ⟨_, _, _, HD.out, fun h => absurd h (by have := HCC.out; have := HLE.out; omega), fun _ => ⟨c', hc', (fun h => by cases h), fun _ => rfl⟩⟩⟩
  · have HU := Hd.mk hu
    clear h hg
    by_cases i1 : u < 1
    · clear hu
      go_enter Tryd.func54, Tryd.ntmps54
      go_wp2_with fail
      go_ret2
      exact ⟨ex_alloc (Below.refl _ _) _, 0, errno 1, rfl, fun _ => ⟨rfl, rfl⟩, fun h => absurd (by have := HU.out; omega) h, fun h => absurd (by have := HU.out; omega) h⟩
    · have i2 : 3 < u := by omega
      clear hu
      go_enter Tryd.func54, Tryd.ntmps54
      go_wp2_with fail
      go_ret2
      exact ⟨ex_alloc (Below.refl _ _) _, 0, errno 1, rfl, fun _ => ⟨rfl, rfl⟩, fun h => absurd (by have := HU.out; omega) h, fun h => absurd (by have := HU.out; omega) h⟩
end
end Go.Proofs.YtgokmldngnmmhaaDoor
