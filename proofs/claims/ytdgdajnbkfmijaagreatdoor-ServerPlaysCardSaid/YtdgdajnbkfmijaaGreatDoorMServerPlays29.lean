/- Several texts of the proof, one behind the other: RefX, RefX2. -/
import Derived.Test.YtdgdajnbkfmijaaGreatDoorMServerPlays26
import Derived.Test.YtdgdajnbkfmijaaGreatDoorMServerPlays28
/- ref.Transform: its closures. -/
namespace Go.Proofs.YtdgdajnbkfmijaaGreatDoor
open Go.RowKit
set_option maxRecDepth 100000
/-- A closure that lays parts behind what stands. -/
def ClPost (base bo : Nat) (v : Value) (out add : List PT) (w : World) (e : Ending) (w' : World) : Prop :=
  e = .returned (.tuple #[]) ∧ ∃ v', Blk w' bo 36 #[v'] ∧ w'.ownsRow base 113 3 v' (out ++ add).length (opv (out ++ add)) ∧ Only (fun k => k = bo ∨ v.ownBlock = some k) w w'
section
variable {base bo : Nat} {v v1 : Value} {out : List PT} {w w1 : World}
/-- The store at the closure's end. -/
theorem cl_end {p : PT} {N : Nat} {y : Value} (hb : bo < base) (hO : Blk w bo 36 #[y]) (hN : out.length = N) (hown : w1.ownsRow base 113 3 v1 (N + 1) (opv out ++ p.cells)) (hg : w.grownBy w1 v.ownBlock) (hv : v.ownBlock ≠ some bo) :
    ClPost base bo v out [p] w (.returned (.tuple #[])) (w1.setCell ⟨bo, 0, none⟩ v1) := by
  subst hN
  have h1 : Only (fun k => k = bo ∨ v.ownBlock = some k) w w1 := (Only.of_grown hg).mono (fun _ _ e => .inr e.symm)
  have hO1 : Blk w1 bo 36 #[y] := hO.only (Only.of_grown hg) (fun e => hv e.symm)
  refine ⟨rfl, v1, hO1.set_ 0 v1, ?_, h1.setCell (p := ⟨bo, 0, none⟩) (.inl (.inl rfl)) _⟩
  rw [opv_append, opv_one, List.length_append]
  exact ownsRow_setCell_other hown (fun e => by have := (hown.lt bo e).1; omega) _
theorem cl_nil (hO : Blk w bo 36 #[v]) (hown : w.ownsRow base 113 3 v out.length (opv out)) : ClPost base bo v out [] w (.returned (.tuple #[])) w :=
  ⟨rfl, v, hO, by rw [List.append_nil]; exact hown, Only.refl _ _⟩
attribute [local go_sem] add_mk
set_option maxHeartbeats 4000000 in
theorem tput_calls {b : U.Bs} (hb : bo < base) (hbase : base ≤ w.heap.size) (hO : Blk w bo 36 #[v])
    (hown : w.ownsRow base 113 3 v out.length (opv out)) (hlen : out.length ≤ 1099511627776) :
    Calls Tryz.prog 147 #[.string ⟨b.toArray⟩, .pointer (some ⟨bo, 0, none⟩)] w (ClPost base bo v out (flushP b 0) w) := by
  have co := hO.cell 0
  have fo := hO.frozen 0
  simp only [List.getElem?_toArray, List.getElem?_cons_zero] at co
  have HO := Hd.mk hO
  have HW := Hd.mk hown
  have HV : Hd (v.ownBlock ≠ some bo) := ⟨fun e => by have := (hown.lt bo e).1; omega⟩
  obtain ⟨A, k, rfl⟩ := own_form hown
  clear hO hown
  by_cases h1 : b = []
  · subst h1
    have HE : Hd (flushP [] 0 = []) := ⟨rfl⟩
    go_enter Tryz.func147, Tryz.ntmps147
    go_wp2_with fail
    go_end0
    rw [HE.out]
    exact cl_nil HO.out HW.out
  · have h1' : (b == []) = false := by rw [beq_eq_false_iff_ne]; exact h1
    have HE : Hd (flushP b 0 = [⟨0, 0, b⟩]) := ⟨by unfold flushP; rw [if_neg h1, if_neg (by omega)]; rfl⟩
    go_enter Tryz.func147, Tryz.ntmps147
    go_wp2_with (at_builtin; refine append_lit' el_part #[.int .i64 0, .int .i64 0, .string ⟨b.toArray⟩] HW.out rfl rfl rfl rfl (by simp) rfl (one3 rfl rfl rfl) (by unfold maxLen; omega) (by omega) hbase ?_; intro v1 w1 hown1 hbel1 hgr1 hnew1; obtain ⟨A1, k1, rfl⟩ := own_form hown1; have hO1 := HO.out.below hbel1 hb; have co1 := hO1.cell 0; have fo1 := hO1.frozen 0; simp only [List.getElem?_toArray, List.getElem?_cons_zero] at co1; have HW1 := Hd.mk hown1; have HG1 := Hd.mk hgr1; clear hown1 hgr1 hbel1 hnew1 hO1)
    go_end0
    rw [HE.out]
    exact cl_end hb HO.out rfl HW1.out HG1.out HV.out
set_option maxHeartbeats 4000000 in
theorem tkeep_calls {n : Int} (hb : bo < base) (hbase : base ≤ w.heap.size) (hO : Blk w bo 36 #[v])
    (hown : w.ownsRow base 113 3 v out.length (opv out)) (hlen : out.length ≤ 1099511627776) :
    Calls Tryz.prog 146 #[.int .i64 n, .pointer (some ⟨bo, 0, none⟩)] w (ClPost base bo v out (keepP n) w) := by
  have co := hO.cell 0
  have fo := hO.frozen 0
  simp only [List.getElem?_toArray, List.getElem?_cons_zero] at co
  have HO := Hd.mk hO
  have HW := Hd.mk hown
  have HV : Hd (v.ownBlock ≠ some bo) := ⟨fun e => by have := (hown.lt bo e).1; omega⟩
  obtain ⟨A, k, rfl⟩ := own_form hown
  clear hO hown
  by_cases h1 : 0 < n
  · have HE : Hd (keepP n = [⟨n, 0, []⟩]) := ⟨by unfold keepP; rw [if_pos h1]⟩
    go_enter Tryz.func146, Tryz.ntmps146
    go_wp2_with (at_builtin; refine append_lit' el_part #[.int .i64 n, .int .i64 0, .string ⟨#[]⟩] HW.out rfl rfl rfl rfl (by simp) rfl (one3 rfl rfl rfl) (by unfold maxLen; omega) (by omega) hbase ?_; intro v1 w1 hown1 hbel1 hgr1 hnew1; obtain ⟨A1, k1, rfl⟩ := own_form hown1; have hO1 := HO.out.below hbel1 hb; have co1 := hO1.cell 0; have fo1 := hO1.frozen 0; simp only [List.getElem?_toArray, List.getElem?_cons_zero] at co1; have HW1 := Hd.mk hown1; have HG1 := Hd.mk hgr1; clear hown1 hgr1 hbel1 hnew1 hO1)
    go_end0
    rw [HE.out]
    exact cl_end hb HO.out rfl HW1.out HG1.out HV.out
  · have HE : Hd (keepP n = []) := ⟨by unfold keepP; rw [if_neg h1]⟩
    go_enter Tryz.func146, Tryz.ntmps146
    go_wp2_with fail
    go_end0
    rw [HE.out]
    exact cl_nil HO.out HW.out
end
end Go.Proofs.YtdgdajnbkfmijaaGreatDoor
/- ref.Transform. -/
namespace Go.Proofs.YtdgdajnbkfmijaaGreatDoor
open Go.RowKit
set_option maxRecDepth 100000
/-- What comes, in its variable at H. -/
structure RTx (H : Nat) (w0 wr : World) (v : Value) (out : List PT) : Prop where
  O : Blk wr H 36 #[v]
  own : wr.ownsRow (H + 1) 113 3 v out.length (opv out)
  bel : Below H w0 wr
section
variable {H : Nat} {w0 wr w' : World} {v : Value} {out ad : List PT} {e : Ending}
theorem RTx.new (w0 : World) (hH : w0.heap.size = H) : RTx H w0 (w0.alloc (.cells #[.slice none 0 0] 36)) (.slice none 0 0) [] := by
  subst hH
  exact ⟨Blk.new _ _ _, World.ownsRow_nil _ _ _ _, ex_alloc (Below.refl _ _) _⟩
theorem RTx.sz (h : RTx H w0 wr v out) : H + 1 ≤ wr.heap.size := h.O.lt
theorem RTx.only (h : RTx H w0 wr v out) (ho : Only (fun k => k = H ∨ v.ownBlock = some k) wr w') : Below H w0 w' :=
  h.bel.trans (ho.below (by have := h.sz; omega) (fun k hk => by
    rintro (e | e)
    · omega
    · have := (h.own.lt _ e).1; omega))
theorem RTx.cl (h : RTx H w0 wr v out) (hc : ClPost (H + 1) H v out ad wr e w') : e = .returned (.tuple #[]) ∧ ∃ v', RTx H w0 w' v' (out ++ ad) := by
  obtain ⟨he, v', h1, h2, h3⟩ := hc
  exact ⟨he, v', h1, h2, h.only h3⟩
theorem RTx.snoc {p : PT} {M : Nat} {v1 : Value} {w1 : World} (h : RTx H w0 wr v out) (hM : out.length = M) (hown : w1.ownsRow (H + 1) 113 3 v1 (M + 1) (opv out ++ p.cells)) (hg : wr.grownBy w1 v.ownBlock) :
    RTx H w0 (w1.setCell ⟨H, 0, none⟩ v1) v1 (out ++ [p]) := by
  subst hM
  have hne : v.ownBlock ≠ some H := fun e => by have := (h.own.lt _ e).1; omega
  have h1 : Only (fun k => k = H ∨ v.ownBlock = some k) wr w1 := (Only.of_grown hg).mono (fun _ _ e => .inr e.symm)
  have hO1 := h.O.only (Only.of_grown hg) (fun e => hne e.symm)
  refine ⟨hO1.set_ 0 v1, ?_, h.only (h1.setCell (p := ⟨H, 0, none⟩) (.inl (.inl rfl)) _)⟩
  rw [opv_append, opv_one, List.length_append]
  exact ownsRow_setCell_other hown (fun e => by have := (hown.lt H e).1; omega) _
end
/-- The gaps of both, in their variables. -/
structure GX (w : World) (g : Nat) (px dx py dy : Value) : Prop where
  X : Blk w g 234 #[px, dx]
  Y : Blk w (g + 1) 234 #[py, dy]
theorem GX.at_ {w w' : World} {g : Nat} {px dx py dy : Value} (h : GX w g px dx py dy) (hb : Below (g + 1 + 1) w w') : w'.cell? ⟨g, 0, none⟩ = some px ∧ w'.cell? ⟨g, 1, none⟩ = some dx ∧ w'.cell? ⟨g + 1, 0, none⟩ = some py ∧ w'.cell? ⟨g + 1, 1, none⟩ = some dy := by
  have h1 := h.X.below hb (by omega)
  have h2 := h.Y.below hb (by omega)
  have a0 := h1.cell 0
  have a1 := h1.cell 1
  have b0 := h2.cell 0
  have b1 := h2.cell 1
  simp only [List.getElem?_toArray, List.getElem?_cons_zero, List.getElem?_cons_succ] at a0 a1 b0 b1
  exact ⟨a0, a1, b0, b1⟩
theorem GX.new (w : World) (px dx py dy : Value) : GX ((w.alloc (.cells #[px, dx] 234)).alloc (.cells #[py, dy] 234)) w.heap.size px dx py dy := by
  refine ⟨(Blk.new _ _ _).alloc _, ?_⟩
  have := Blk.new (w.alloc (.cells #[px, dx] 234)) 234 #[py, dy]
  rwa [World.size_alloc] at this
/-- The parts of a gap, and of a byte. -/
def gapP (first : Bool) (px py : U.Bs) : List PT := if first = true then flushP px 0 ++ keepP py.length else keepP py.length ++ flushP px 0
def byteP (dx dy : Bool) : List PT := if dy = true then [] else if dx = true then [⟨0, 1, []⟩] else keepP 1
theorem expand_flush0 (b : U.Bs) : expand (flushP b 0) = b.map PT.byte := by
  unfold flushP
  by_cases h : b = []
  · subst h; rfl
  · rw [if_neg h, if_neg (by omega), List.append_nil, expand_cons, exp_put, expand_nil, List.append_nil]
theorem expand_keepP (n : Nat) : expand (keepP n) = List.replicate n PT.k1 := by
  unfold keepP
  by_cases h : 0 < n
  · rw [if_pos (by omega), expand_cons, exp_keep, expand_nil, List.append_nil]
  · obtain rfl : n = 0 := by omega
    rfl
theorem gapP_exp (first : Bool) (px py : U.Bs) : expand (gapP first px py) = gapOut first px py := by
  unfold gapP gapOut
  cases first
  · rw [if_neg (by decide), if_neg (by decide), expand_append, expand_flush0, expand_keepP]
  · rw [if_pos rfl, if_pos rfl, expand_append, expand_flush0, expand_keepP]
theorem byteP_exp (dx dy : Bool) : expand (byteP dx dy) = if dy = true then [] else [unit dx] := by
  cases dx <;> cases dy <;> rfl
theorem flush0_arg (b : U.Bs) : (∀ p ∈ flushP b 0, p.arg) ∧ (flushP b 0).length ≤ 1 := by
  unfold flushP
  by_cases h : b = []
  · subst h; exact ⟨fun p hp => by simp at hp, by simp⟩
  · rw [if_neg h, if_neg (by omega), List.append_nil]
    refine ⟨fun p hp => ?_, by simp⟩
    obtain rfl := List.mem_singleton.1 hp
    exact PT.arg_put h
theorem keepP_arg (n : Int) : (∀ p ∈ keepP n, p.arg) ∧ (keepP n).length ≤ 1 := by
  unfold keepP
  by_cases h : 0 < n
  · rw [if_pos h]
    refine ⟨fun p hp => ?_, by simp⟩
    obtain rfl := List.mem_singleton.1 hp
    exact PT.arg_keep h
  · rw [if_neg h]; exact ⟨fun p hp => by simp at hp, by simp⟩
theorem app_arg {a b : List PT} (h1 : ∀ p ∈ a, p.arg) (h2 : ∀ p ∈ b, p.arg) : ∀ p ∈ a ++ b, p.arg := fun p hp => (List.mem_append.1 hp).elim (h1 p) (h2 p)
theorem gapP_arg (first : Bool) (px py : U.Bs) : (∀ p ∈ gapP first px py, p.arg) ∧ (gapP first px py).length ≤ 2 := by
  obtain ⟨a1, a2⟩ := flush0_arg px
  obtain ⟨b1, b2⟩ := keepP_arg py.length
  unfold gapP
  cases first
  · rw [if_neg (by decide)]; exact ⟨app_arg b1 a1, by rw [List.length_append]; omega⟩
  · rw [if_pos rfl]; exact ⟨app_arg a1 b1, by rw [List.length_append]; omega⟩
theorem byteP_arg (dx dy : Bool) : (∀ p ∈ byteP dx dy, p.arg) ∧ (byteP dx dy).length ≤ 1 := by
  unfold byteP
  cases dy
  · rw [if_neg (by decide)]
    cases dx
    · rw [if_neg (by decide)]; exact keepP_arg 1
    · rw [if_pos rfl]
      refine ⟨fun p hp => ?_, by simp⟩
      obtain rfl := List.mem_singleton.1 hp
      exact PT.arg_drop (by omega)
  · rw [if_pos rfl]; exact ⟨fun p hp => by simp at hp, by simp⟩
/-- A round's relation. -/
structure RXr (first : Bool) (X Y : SS) (N : Nat) (Uu : List PT) (H : Nat) (w0 wr : World) (k : Nat) (v : Value) (out : List PT) : Prop where
  le : k ≤ N + 1
  rt : RTx H w0 wr v out
  arg : ∀ p ∈ out, p.arg
  len : out.length ≤ 3 * k
  eq : k ≤ N → expand out ++ trGaps first (X.l.drop k) (Y.l.drop k) X.e Y.e = Uu
  fin : k = N + 1 → expand out = Uu
section
variable {first : Bool} {X Y : SS} {N k H : Nat} {Uu : List PT} {w0 wr w' : World} {v v' : Value} {out : List PT} {px py : U.Bs} {dx dy : Bool}
theorem RXr.last {out2 : List PT} (h : RXr first X Y N Uu H w0 wr k v out) (hX : X.l.length = N) (hY : Y.l.length = N) (hk : k = N) (hO : out2 = out ++ gapP first px py) (hp : px = X.e ∧ py = Y.e) (ht : RTx H w0 w' v' out2) : RXr first X Y N Uu H w0 w' (k + 1) v' out2 := by
  subst hk
  obtain ⟨rfl, rfl⟩ := hp
  subst hO
  obtain ⟨a1, a2⟩ := gapP_arg first X.e Y.e
  have he := h.eq (by omega)
  have e0 : ∀ ex ey, trGaps first [] [] ex ey = gapOut first ex ey := fun ex ey => by rw [trGaps]; simp
  rw [List.drop_eq_nil_of_le (by omega), List.drop_eq_nil_of_le (by omega), e0] at he
  exact ⟨by omega, ht, app_arg h.arg a1, by have := h.len; rw [List.length_append]; omega, fun h => by omega, fun _ => by rw [expand_append, gapP_exp, he]⟩
theorem RXr.next {out2 : List PT} (h : RXr first X Y N Uu H w0 wr k v out) (hX : X.l.length = N) (hY : Y.l.length = N) (hk : k < N) (ex : X.l[k]? = some (px, dx)) (ey : Y.l[k]? = some (py, dy)) (hO : out2 = out ++ gapP first px py)
    (ht : RTx H w0 w' v' (out2 ++ byteP dx dy)) : RXr first X Y N Uu H w0 w' (k + 1) v' (out2 ++ byteP dx dy) := by
  subst hO
  obtain ⟨a1, a2⟩ := gapP_arg first px py
  obtain ⟨b1, b2⟩ := byteP_arg dx dy
  have he := h.eq (by omega)
  have e1 : X.l.drop k = (px, dx) :: X.l.drop (k + 1) := by
    rw [List.drop_eq_getElem_cons (by omega)]; rw [List.getElem?_eq_getElem (by omega)] at ex; rw [Option.some.inj ex]
  have e2 : Y.l.drop k = (py, dy) :: Y.l.drop (k + 1) := by
    rw [List.drop_eq_getElem_cons (by omega)]; rw [List.getElem?_eq_getElem (by omega)] at ey; rw [Option.some.inj ey]
  rw [e1, e2, trGaps] at he
  refine ⟨by omega, ht, app_arg (app_arg h.arg a1) b1, by have := h.len; rw [List.length_append, List.length_append]; omega, fun _ => ?_, fun h => by omega⟩
  rw [expand_append, expand_append, gapP_exp, byteP_exp, ← he]; simp only [List.append_assoc]
end
/-- An operation, or what is wrong; the reference's. -/
def RtRes (c : Int) (U : List PT) (w : World) (e : Ending) (w' : World) : Prop :=
  Below w.heap.size w w' ∧ ∃ v, e = .returned (.tuple #[v, .int .i64 c]) ∧ (c = 0 → Sl w' 3 v (urun U).length (opv (urun U))) ∧ (c ≠ 0 → v = .slice none 0 0)
def RtNew (c : Int) (U : List PT) (w : World) (e : Ending) (w' : World) : Prop := RtRes c U w e w' ∧ FrE w.heap.size e
theorem str_cell {w : World} {vp : Value} {n k : Nat} {l : List U.Bs} {b : U.Bs} {A : Option Addr} {c : Nat} (h : Sl w 1 vp n (strs l)) (hv : vp = .slice A n c) (hk : k < n) (hb : l[k]? = some b) : ∃ ad : Addr, A = some ad ∧ ad.block < w.heap.size ∧ w.cell? (ad.add k) = some (.string ⟨b.toArray⟩) := by
  obtain ⟨ad, c', u, hv', hl, hu, hc⟩ := h.at_ hk
  rw [hv] at hv'
  cases hv'
  rw [strs_at hb hu] at hc
  exact ⟨ad, rfl, hl, hc⟩
theorem bool_cell {w : World} {vp : Value} {n k : Nat} {l : List Bool} {b : Bool} {A : Option Addr} {c : Nat} (h : Sl w 1 vp n (bools l)) (hv : vp = .slice A n c) (hk : k < n) (hb : l[k]? = some b) : ∃ ad : Addr, A = some ad ∧ ad.block < w.heap.size ∧ w.cell? (ad.add k) = some (.bool b) := by
  obtain ⟨ad, c', u, hv', hl, hu, hc⟩ := h.at_ hk
  rw [hv] at hv'
  cases hv'
  rw [bools_at hb hu] at hc
  exact ⟨ad, rfl, hl, hc⟩
section
attribute [local go_sem] add_mk
set_option maxHeartbeats 16000000 in
theorem rtrans_new {la lb : List PT} {va vb : Value} {na nb : Nat} {first : Bool} {w : World} (ha : Sl w 3 va na (opv la)) (hb : Sl w 3 vb nb (opv lb)) (hfa : Mo la na) (hfb : Mo lb nb) :
    Calls Tryz.prog 97 #[va, vb, .bool first] w (RtNew (trc la lb) (tr first (expand (norm la)) (expand (norm lb))) w) := by
  have hla : la.length = na := by have := ha.len; rw [opv_length] at this; omega
  have hlb : lb.length = nb := by have := hb.len; rw [opv_length] at this; omega
  have HA := Hd.mk ha
  have HB := Hd.mk hb
  have HFA := Hd.mk hfa
  have HFB := Hd.mk hfb
  obtain ⟨A1, c1, rfl, -⟩ := ha
  obtain ⟨A2, c2, rfl, -⟩ := hb
  have hna := hfa.len
  have hnb := hfb.len
  clear hfa hfb
  go_enter Tryz.func97, Tryz.ntmps97
  go_wp2_with fail
  refine (both_calls HA.out HB.out HFA.out.put HFB.out.put).mono ?_
  rintro e w1 ⟨rfl, hb1⟩
  have HB1 := Hd.mk hb1
  clear hb1
  by_cases h0 : chk2 la lb = 0
  · obtain ⟨ga, gb⟩ := chk2_good h0
    have harga : ∀ p ∈ la, p.arg := fun p hp => (ga p hp).1
    have hargb : ∀ p ∈ lb, p.arg := fun p hp => (gb p hp).1
    obtain ⟨f1, f2, f3⟩ := HFA.out.bd harga
    obtain ⟨f4, f5, f6⟩ := HFB.out.bd hargb
    have ea := wrap_id f3 (by omega)
    have eb := wrap_id f6 (by omega)
    have HEA := Hd.mk ea
    have HEB := Hd.mk eb
    have HARA := Hd.mk harga
    have HARB := Hd.mk hargb
    obtain ⟨N, hN⟩ := Int.eq_ofNat_of_zero_le f3
    have HN := Hd.mk hN
    have hN2 : N ≤ 1000000 := by omega
    have HWA : Hd (plen la ≤ 900000) := ⟨by omega⟩
    have HWB : Hd (was lb ≤ 1000000 ∧ plen lb ≤ 900000 ∧ 0 ≤ was lb) := ⟨by omega, by omega, f6⟩
    rw [h0]
    have H0 := Hd.mk h0
    clear h0 ga gb harga hargb f1 f2 f3 f4 f5 f6 ea eb hN
    go_wp2_with fail
    refine (rlens_calls (HA.out.below HB1.out)).mono ?_
    rintro e w2 ⟨he, hb2⟩
    rw [HEA.out, HN.out] at he
    subst he
    have HB2 := Hd.mk (bstep HB1.out hb2)
    clear hb2
    go_wp2_with fail
    refine (rlens_calls (HB.out.below HB2.out)).mono ?_
    rintro e w3 ⟨he, hb3⟩
    rw [HEB.out] at he
    subst he
    have HB3 := Hd.mk (bstep HB2.out hb3)
    clear hb3
    by_cases hw : was la = was lb
    · have HTC : Hd (trc la lb = 0) := ⟨by unfold trc; rw [if_pos H0.out, if_pos hw]⟩
      have HW : Hd (was lb = N) := ⟨by rw [← hw, HN.out]⟩
      rw [HW.out]
      clear hw
      have hw' : ((N : Int) == N) = true := beq_self_eq_true _
      have HL1 : Hd (la.length ≤ 2000000 ∧ lb.length ≤ 2000000) := ⟨by omega, by omega⟩
      obtain ⟨no1, no2, no3⟩ := norm_ok HARA.out
      obtain ⟨no4, no5, no6⟩ := norm_ok HARB.out
      have HNA := Hd.mk no1
      have HNB := Hd.mk no4
      have HNW : Hd (was (norm la) = N ∧ was (norm lb) = N ∧ plen (norm la) ≤ 900000 ∧ plen (norm lb) ≤ 900000) := ⟨by rw [no2, HN.out], by rw [no5, HW.out], by have := HWA.out; omega, by have := HWB.out; omega⟩
      have HNL1 := Hd.mk (norm_length HARA.out)
      have HNL2 := Hd.mk (norm_length HARB.out)
      clear no1 no2 no3 no4 no5 no6
      go_wp2_with fail
      refine (spread_calls (HA.out.below HB3.out) HARA.out HN.out (by omega) (by have := HWA.out; omega) (by omega)).mono ?_
      rintro e w4 ⟨⟨vp4, vd4, rfl, hp4, hd4⟩, hb4⟩
      have HB4 := Hd.mk (bstep HB3.out hb4)
      have HP4 := Hd.mk hp4
      have HD4 := Hd.mk hd4
      clear hb4 hp4 hd4
      go_wp2_with fail
      refine (gather_calls HP4.out HD4.out (by omega) (by rw [plg_spread]; have := HWA.out; omega)).mono ?_
      rintro e w5 ⟨⟨v5, rfl, hs5⟩, hb5⟩
      rw [gather_spread HARA.out] at hs5
      have HB5 := Hd.mk (bstep HB4.out hb5)
      have HS5 := Hd.mk hs5
      clear hb5 hs5
      go_wp2_with fail
      refine (spread_calls HS5.out HNA.out HNW.out.1 (by omega) (by have := HNW.out; omega) (by have := HNL1.out; have := HL1.out; omega)).mono ?_
      rintro e w6 ⟨⟨vp6, vd6, rfl, hp6, hd6⟩, hb6⟩
      have HB6 := Hd.mk (bstep HB5.out hb6)
      have HP6 := Hd.mk hp6
      have HD6 := Hd.mk hd6
      obtain ⟨AP6, cp6, rfl, -⟩ := hp6
      obtain ⟨AD6, cd6, rfl, -⟩ := hd6
      clear hb6
      go_wp2_with fail
      refine (spread_calls (HB.out.below HB6.out) HARB.out HW.out (by omega) (by have := HWB.out; omega) (by omega)).mono ?_
      rintro e w7 ⟨⟨vp7, vd7, rfl, hp7, hd7⟩, hb7⟩
      have HB7 := Hd.mk (bstep HB6.out hb7)
      have HP7 := Hd.mk hp7
      have HD7 := Hd.mk hd7
      have HP6b := Hd.mk (HP6.out.below hb7)
      have HD6b := Hd.mk (HD6.out.below hb7)
      clear hb7 hp7 hd7
      go_wp2_with fail
      refine (gather_calls HP7.out HD7.out (by omega) (by rw [plg_spread]; have := HWB.out; omega)).mono ?_
      rintro e w8 ⟨⟨v8, rfl, hs8⟩, hb8⟩
      rw [gather_spread HARB.out] at hs8
      have HB8 := Hd.mk (bstep HB7.out hb8)
      have HS8 := Hd.mk hs8
      have HP6c := Hd.mk (HP6b.out.below hb8)
      have HD6c := Hd.mk (HD6b.out.below hb8)
      clear hb8 hs8
      go_wp2_with fail
      refine (spread_calls HS8.out HNB.out HNW.out.2.1 (by omega) (by have := HNW.out; omega) (by have := HNL2.out; have := HL1.out; omega)).mono ?_
      rintro e w9 ⟨⟨vp9, vd9, rfl, hp9, hd9⟩, hb9⟩
      have HB9 := Hd.mk (bstep HB8.out hb9)
      have HPX := Hd.mk (HP6c.out.below hb9)
      have HDX := Hd.mk (HD6c.out.below hb9)
      have HPY := Hd.mk hp9
      have HDY := Hd.mk hd9
      obtain ⟨AP9, cp9, rfl, -⟩ := hp9
      obtain ⟨AD9, cd9, rfl, -⟩ := hd9
      clear hb9 HP4 HD4 HP6 HD6 HP6b HD6b HP6c HD6c HP7 HD7 HS5 HS8
      have HXL : Hd ((spread (norm la)).l.length = N ∧ (spread (norm lb)).l.length = N) := ⟨by have := spread_len HNA.out; have := HNW.out.1; omega, by have := spread_len HNB.out; have := HNW.out.2.1; omega⟩
      have HU : Hd (trGaps first (spread (norm la)).l (spread (norm lb)).l (spread (norm la)).e (spread (norm lb)).e = tr first (expand (norm la)) (expand (norm lb))) := ⟨by
        rw [trGaps_eq (by rw [HXL.out.1, HXL.out.2])]
        have e1 : (⟨(spread (norm la)).l, (spread (norm la)).e⟩ : SS) = spread (norm la) := rfl
        have e2 : (⟨(spread (norm lb)).l, (spread (norm lb)).e⟩ : SS) = spread (norm lb) := rfl
        rw [e1, e2, spread_exp HNA.out, spread_exp HNB.out]⟩
      have HUL : Hd ((tr first (expand (norm la)) (expand (norm lb))).length ≤ 4000000) := ⟨by
        have := tr_len first (expand (norm la)) (expand (norm lb))
        obtain ⟨_, _, e3⟩ := expand_meas HNA.out
        obtain ⟨_, _, e6⟩ := expand_meas HNB.out
        have := HNW.out
        omega⟩
      have HBX : Hd (plg (spread (norm la)) ≤ 900000 ∧ plg (spread (norm lb)) ≤ 900000) := ⟨by rw [plg_spread]; exact HNW.out.2.2.1, by rw [plg_spread]; exact HNW.out.2.2.2⟩
      generalize tr first (expand (norm la)) (expand (norm lb)) = U at *
      generalize spread (norm la) = X at *
      generalize spread (norm lb) = Y at *
      go_wp2_with fail
      have HGX := Hd.mk (GX.new w9 (.slice AP6 (N + 1) cp6) (.slice AD6 N cd6) (.slice AP9 (N + 1) cp9) (.slice AD9 N cd9))
      have hW0z : ((w9.alloc (.cells #[.slice AP6 (N + 1) cp6, .slice AD6 N cd6] 234)).alloc (.cells #[.slice AP9 (N + 1) cp9, .slice AD9 N cd9] 234)).heap.size = w9.heap.size + 1 + 1 := by rw [World.size_alloc, World.size_alloc]
      have hW0b : Below w9.heap.size w9 ((w9.alloc (.cells #[.slice AP6 (N + 1) cp6, .slice AD6 N cd6] 234)).alloc (.cells #[.slice AP9 (N + 1) cp9, .slice AD9 N cd9] 234)) := ex_alloc (ex_alloc (Below.refl _ _) _) _
      generalize (w9.alloc (.cells #[.slice AP6 (N + 1) cp6, .slice AD6 N cd6] 234)).alloc (.cells #[.slice AP9 (N + 1) cp9, .slice AD9 N cd9] 234) = W0 at *
      have HZ := Hd.mk hW0z
      have HW0 : Hd (∀ W, Below (w9.heap.size + 1 + 1) W0 W → Below w9.heap.size w9 W) := ⟨fun W h => hW0b.trans (h.mono (by omega))⟩
      clear hW0z hW0b hw'
      go_loopw [50] (fun i wr => ∃ (k : Nat) (v : Value) (out : List PT), i = .int .i64 k ∧ RXr first X Y N U (w9.heap.size + 1 + 1) W0 wr k v out) (fun i _ => N + 1 - (intOf i).toNat)
      case atStart => exact ⟨0, _, [], rfl, by omega, RTx.new _ HZ.out, fun p hp => by simp at hp, by simp, fun _ => by rw [List.drop_zero, List.drop_zero, HU.out]; rfl, fun h => by omega⟩
      case round =>
        obtain ⟨k, v, out, rfl, hrr⟩ := hrel
        have HRR := Hd.mk hrr
        have hk := hrr.le
        have hlen := hrr.len
        obtain ⟨A, c, rfl⟩ := own_form hrr.rt.own
        have b0 := hrr.rt.O.cell 0
        have bf := hrr.rt.O.frozen 0
        have bl := hrr.rt.O.lt
        simp only [List.getElem?_toArray, List.getElem?_cons_zero] at b0
        clear hrr
        by_cases hk2 : k < N + 1
        · obtain ⟨px, hpx⟩ : ∃ px, X.P[k]? = some px := ⟨_, List.getElem?_eq_getElem (by rw [SS.P_length, HXL.out.1]; exact hk2)⟩
          obtain ⟨py, hpy⟩ : ∃ py, Y.P[k]? = some py := ⟨_, List.getElem?_eq_getElem (by rw [SS.P_length, HXL.out.2]; exact hk2)⟩
          have HPX2 := Hd.mk hpx
          have HPY2 := Hd.mk hpy
          have hlx := b_le hpx
          have hly := b_le hpy
          have hbx := HBX.out.1
          have hby := HBX.out.2
          clear hpx hpy
          obtain ⟨gx0, gx1, gy0, gy1⟩ := HGX.out.at_ HRR.out.rt.bel
          cases first
          · skip
            obtain ⟨ay, rfl, hyl, hyc⟩ := str_cell (HPY.out.below (HW0.out _ HRR.out.rt.bel)) rfl hk2 HPY2.out
            go_wp2_with fail
            refine (tkeep_calls (n := (py.length : Int)) (by omega) bl HRR.out.rt.O HRR.out.rt.own (by omega)).mono ?_
            intro e w10 hc10
            obtain ⟨rfl, v10, hrt10⟩ := HRR.out.rt.cl hc10
            have HRT10 := Hd.mk hrt10
            have bl10 := hrt10.sz
            obtain ⟨gx0, gx1, gy0, gy1⟩ := HGX.out.at_ hrt10.bel
            clear hc10 hrt10 hyc
            obtain ⟨ax, rfl, hxl, hxc⟩ := str_cell (HPX.out.below (HW0.out _ HRT10.out.bel)) rfl hk2 HPX2.out
            go_wp2_with fail
            refine (tput_calls (by omega) bl10 HRT10.out.O HRT10.out.own (by have := (keepP_arg py.length).2; rw [List.length_append]; omega)).mono ?_
            intro e w11 hc11
            obtain ⟨rfl, v11, hrt11⟩ := HRT10.out.cl hc11
            have hgp := (gapP_arg false px py).2
            obtain ⟨out2, hO2⟩ : ∃ o, o = out ++ gapP false px py := ⟨_, rfl⟩
            have HRT11 : Hd (RTx (w9.heap.size + 1 + 1) W0 w11 v11 out2) := ⟨by
              rw [List.append_assoc] at hrt11
              rw [hO2]
              exact hrt11⟩
            have hlo2 : out2.length ≤ out.length + 2 := by rw [hO2, List.length_append]; omega
            have HO2 := Hd.mk hO2
            clear hO2 hgp
            have b1 := HRT11.out.O.cell 0
            have bf1 := HRT11.out.O.frozen 0
            have bl11 := HRT11.out.sz
            obtain ⟨gx0, gx1, gy0, gy1⟩ := HGX.out.at_ HRT11.out.bel
            simp only [List.getElem?_toArray, List.getElem?_cons_zero] at b1
            obtain ⟨A11, c11, rfl⟩ := own_form HRT11.out.own
            clear hc11 hrt11
            by_cases hkN : k = N
            · have HK := Hd.mk hkN
              have HEX : Hd (px = X.e ∧ py = Y.e) := ⟨by
                have h1 := HPX2.out
                have h2 := HPY2.out
                rw [hkN, ← HXL.out.1, P_end] at h1
                rw [hkN, ← HXL.out.2, P_end] at h2
                exact ⟨(Option.some.inj h1).symm, (Option.some.inj h2).symm⟩⟩
              subst hkN
              have hkk : ((k : Int) == k) = true := beq_self_eq_true _
              go_wp2_with fail
              exact ⟨⟨k + 1, _, _, by go_num, HRR.out.last HXL.out.1 HXL.out.2 rfl HO2.out HEX.out HRT11.out⟩, by simp only [intOf]; omega⟩
            · have hkk : ((k : Int) == N) = false := by rw [beq_eq_false_iff_ne]; omega
              have hk3 : k < N := by omega
              obtain ⟨⟨px', dx⟩, ex⟩ : ∃ z, X.l[k]? = some z := ⟨_, List.getElem?_eq_getElem (by rw [HXL.out.1]; exact hk3)⟩
              obtain ⟨⟨py', dy⟩, ey⟩ : ∃ z, Y.l[k]? = some z := ⟨_, List.getElem?_eq_getElem (by rw [HXL.out.2]; exact hk3)⟩
              have hexk : X.l[k]'(by rw [HXL.out.1]; exact hk3) = (px', dx) := by rw [List.getElem?_eq_getElem (by rw [HXL.out.1]; exact hk3)] at ex; exact Option.some.inj ex
              have heyk : Y.l[k]'(by rw [HXL.out.2]; exact hk3) = (py', dy) := by rw [List.getElem?_eq_getElem (by rw [HXL.out.2]; exact hk3)] at ey; exact Option.some.inj ey
              have hpxe : px' = px := by have h1 := HPX2.out; rw [P_at (by rw [HXL.out.1]; exact hk3), hexk] at h1; exact Option.some.inj h1
              have hpye : py' = py := by have h1 := HPY2.out; rw [P_at (by rw [HXL.out.2]; exact hk3), heyk] at h1; exact Option.some.inj h1
              subst hpxe hpye
              have hdx : X.D[k]? = some dx := by rw [D_at (by rw [HXL.out.1]; exact hk3), hexk]
              have hdy : Y.D[k]? = some dy := by rw [D_at (by rw [HXL.out.2]; exact hk3), heyk]
              obtain ⟨adx, rfl, hdxl, hdxc⟩ := bool_cell (HDX.out.below (HW0.out _ HRT11.out.bel)) rfl hk3 hdx
              obtain ⟨ady, rfl, hdyl, hdyc⟩ := bool_cell (HDY.out.below (HW0.out _ HRT11.out.bel)) rfl hk3 hdy
              have HEXK := Hd.mk ex
              have HEYK := Hd.mk ey
              clear hexk heyk hdx hdy ex ey
              cases dy
              · cases dx
                · go_wp2_with fail
                  refine (tkeep_calls (n := 1) (by omega) bl11 HRT11.out.O HRT11.out.own (by omega)).mono ?_
                  intro e w12 hc12
                  obtain ⟨rfl, v12, hrt12⟩ := HRT11.out.cl hc12
                  have HRT12 := Hd.mk hrt12
                  clear hc12 hrt12
                  go_wp2_with fail
                  exact ⟨⟨k + 1, _, _, by go_num, HRR.out.next HXL.out.1 HXL.out.2 hk3 HEXK.out HEYK.out HO2.out HRT12.out⟩, by simp only [intOf]; omega⟩
                · go_wp2_with (at_builtin; refine append_lit' el_part #[.int .i64 0, .int .i64 1, .string ⟨#[]⟩] HRT11.out.own rfl rfl rfl rfl (by simp) rfl (one3 rfl rfl rfl) (by unfold maxLen; omega) (by omega) bl11 ?_; intro v12 w12 hown12 hbel12 hgr12 hnew12; obtain ⟨A12, k12, rfl⟩ := own_form hown12; have hO12 := HRT11.out.O.below hbel12 (by omega); have c12 := hO12.cell 0; have f12 := hO12.frozen 0; simp only [List.getElem?_toArray, List.getElem?_cons_zero] at c12; have HW12 := Hd.mk hown12; have HG12 := Hd.mk hgr12; clear hown12 hgr12 hbel12 hnew12 hO12)
                  exact ⟨⟨k + 1, _, _, by go_num, HRR.out.next HXL.out.1 HXL.out.2 hk3 HEXK.out HEYK.out HO2.out (HRT11.out.snoc (p := ⟨0, 1, []⟩) rfl HW12.out HG12.out)⟩, by simp only [intOf]; omega⟩
              · have HQ : Hd (RTx (w9.heap.size + 1 + 1) W0 w11 (.slice A11 out2.length c11) (out2 ++ byteP dx true)) := ⟨by
                  rw [show byteP dx true = [] from rfl, List.append_nil]
                  exact HRT11.out⟩
                go_wp2_with fail
                exact ⟨⟨k + 1, _, _, by go_num, HRR.out.next HXL.out.1 HXL.out.2 hk3 HEXK.out HEYK.out HO2.out HQ.out⟩, by simp only [intOf]; omega⟩
          · skip
            obtain ⟨ax, rfl, hxl, hxc⟩ := str_cell (HPX.out.below (HW0.out _ HRR.out.rt.bel)) rfl hk2 HPX2.out
            go_wp2_with fail
            refine (tput_calls (by omega) bl HRR.out.rt.O HRR.out.rt.own (by omega)).mono ?_
            intro e w10 hc10
            obtain ⟨rfl, v10, hrt10⟩ := HRR.out.rt.cl hc10
            have HRT10 := Hd.mk hrt10
            have bl10 := hrt10.sz
            obtain ⟨gx0, gx1, gy0, gy1⟩ := HGX.out.at_ hrt10.bel
            clear hc10 hrt10 hxc
            obtain ⟨ay, rfl, hyl, hyc⟩ := str_cell (HPY.out.below (HW0.out _ HRT10.out.bel)) rfl hk2 HPY2.out
            go_wp2_with fail
            refine (tkeep_calls (n := (py.length : Int)) (by omega) bl10 HRT10.out.O HRT10.out.own (by have := (flush0_arg px).2; rw [List.length_append]; omega)).mono ?_
            intro e w11 hc11
            obtain ⟨rfl, v11, hrt11⟩ := HRT10.out.cl hc11
            have hgp := (gapP_arg true px py).2
            obtain ⟨out2, hO2⟩ : ∃ o, o = out ++ gapP true px py := ⟨_, rfl⟩
            have HRT11 : Hd (RTx (w9.heap.size + 1 + 1) W0 w11 v11 out2) := ⟨by
              rw [List.append_assoc] at hrt11
              rw [hO2]
              exact hrt11⟩
            have hlo2 : out2.length ≤ out.length + 2 := by rw [hO2, List.length_append]; omega
            have HO2 := Hd.mk hO2
            clear hO2 hgp
            have b1 := HRT11.out.O.cell 0
            have bf1 := HRT11.out.O.frozen 0
            have bl11 := HRT11.out.sz
            obtain ⟨gx0, gx1, gy0, gy1⟩ := HGX.out.at_ HRT11.out.bel
            simp only [List.getElem?_toArray, List.getElem?_cons_zero] at b1
            obtain ⟨A11, c11, rfl⟩ := own_form HRT11.out.own
            clear hc11 hrt11
            by_cases hkN : k = N
            · have HK := Hd.mk hkN
              have HEX : Hd (px = X.e ∧ py = Y.e) := ⟨by
                have h1 := HPX2.out
                have h2 := HPY2.out
                rw [hkN, ← HXL.out.1, P_end] at h1
                rw [hkN, ← HXL.out.2, P_end] at h2
                exact ⟨(Option.some.inj h1).symm, (Option.some.inj h2).symm⟩⟩
              subst hkN
              have hkk : ((k : Int) == k) = true := beq_self_eq_true _
              go_wp2_with fail
              exact ⟨⟨k + 1, _, _, by go_num, HRR.out.last HXL.out.1 HXL.out.2 rfl HO2.out HEX.out HRT11.out⟩, by simp only [intOf]; omega⟩
            · have hkk : ((k : Int) == N) = false := by rw [beq_eq_false_iff_ne]; omega
              have hk3 : k < N := by omega
              obtain ⟨⟨px', dx⟩, ex⟩ : ∃ z, X.l[k]? = some z := ⟨_, List.getElem?_eq_getElem (by rw [HXL.out.1]; exact hk3)⟩
              obtain ⟨⟨py', dy⟩, ey⟩ : ∃ z, Y.l[k]? = some z := ⟨_, List.getElem?_eq_getElem (by rw [HXL.out.2]; exact hk3)⟩
              have hexk : X.l[k]'(by rw [HXL.out.1]; exact hk3) = (px', dx) := by rw [List.getElem?_eq_getElem (by rw [HXL.out.1]; exact hk3)] at ex; exact Option.some.inj ex
              have heyk : Y.l[k]'(by rw [HXL.out.2]; exact hk3) = (py', dy) := by rw [List.getElem?_eq_getElem (by rw [HXL.out.2]; exact hk3)] at ey; exact Option.some.inj ey
              have hpxe : px' = px := by have h1 := HPX2.out; rw [P_at (by rw [HXL.out.1]; exact hk3), hexk] at h1; exact Option.some.inj h1
              have hpye : py' = py := by have h1 := HPY2.out; rw [P_at (by rw [HXL.out.2]; exact hk3), heyk] at h1; exact Option.some.inj h1
              subst hpxe hpye
              have hdx : X.D[k]? = some dx := by rw [D_at (by rw [HXL.out.1]; exact hk3), hexk]
              have hdy : Y.D[k]? = some dy := by rw [D_at (by rw [HXL.out.2]; exact hk3), heyk]
              obtain ⟨adx, rfl, hdxl, hdxc⟩ := bool_cell (HDX.out.below (HW0.out _ HRT11.out.bel)) rfl hk3 hdx
              obtain ⟨ady, rfl, hdyl, hdyc⟩ := bool_cell (HDY.out.below (HW0.out _ HRT11.out.bel)) rfl hk3 hdy
              have HEXK := Hd.mk ex
              have HEYK := Hd.mk ey
              clear hexk heyk hdx hdy ex ey
              cases dy
              · cases dx
                · go_wp2_with fail
                  refine (tkeep_calls (n := 1) (by omega) bl11 HRT11.out.O HRT11.out.own (by omega)).mono ?_
                  intro e w12 hc12
                  obtain ⟨rfl, v12, hrt12⟩ := HRT11.out.cl hc12
                  have HRT12 := Hd.mk hrt12
                  clear hc12 hrt12
                  go_wp2_with fail
                  exact ⟨⟨k + 1, _, _, by go_num, HRR.out.next HXL.out.1 HXL.out.2 hk3 HEXK.out HEYK.out HO2.out HRT12.out⟩, by simp only [intOf]; omega⟩
                · go_wp2_with (at_builtin; refine append_lit' el_part #[.int .i64 0, .int .i64 1, .string ⟨#[]⟩] HRT11.out.own rfl rfl rfl rfl (by simp) rfl (one3 rfl rfl rfl) (by unfold maxLen; omega) (by omega) bl11 ?_; intro v12 w12 hown12 hbel12 hgr12 hnew12; obtain ⟨A12, k12, rfl⟩ := own_form hown12; have hO12 := HRT11.out.O.below hbel12 (by omega); have c12 := hO12.cell 0; have f12 := hO12.frozen 0; simp only [List.getElem?_toArray, List.getElem?_cons_zero] at c12; have HW12 := Hd.mk hown12; have HG12 := Hd.mk hgr12; clear hown12 hgr12 hbel12 hnew12 hO12)
                  exact ⟨⟨k + 1, _, _, by go_num, HRR.out.next HXL.out.1 HXL.out.2 hk3 HEXK.out HEYK.out HO2.out (HRT11.out.snoc (p := ⟨0, 1, []⟩) rfl HW12.out HG12.out)⟩, by simp only [intOf]; omega⟩
              · have HQ : Hd (RTx (w9.heap.size + 1 + 1) W0 w11 (.slice A11 out2.length c11) (out2 ++ byteP dx true)) := ⟨by
                  rw [show byteP dx true = [] from rfl, List.append_nil]
                  exact HRT11.out⟩
                go_wp2_with fail
                exact ⟨⟨k + 1, _, _, by go_num, HRR.out.next HXL.out.1 HXL.out.2 hk3 HEXK.out HEYK.out HO2.out HQ.out⟩, by simp only [intOf]; omega⟩
        · obtain rfl : k = N + 1 := by omega
          have HF := Hd.mk (HRR.out.fin rfl)
          have HM : Hd (∃ M : Nat, was out = M ∧ M ≤ 4000000 ∧ plen out ≤ 4000000) := ⟨by
            obtain ⟨_, _, e3⟩ := expand_meas HRR.out.arg
            have h1 := HUL.out
            have h2 := was_nn HRR.out.arg
            rw [HF.out] at e3
            obtain ⟨M, hM⟩ := Int.eq_ofNat_of_zero_le h2
            exact ⟨M, hM, by omega, by omega⟩⟩
          obtain ⟨M, hM1, hM2, hM3⟩ := HM.out
          have HM1 := Hd.mk hM1
          clear hM1 HM
          go_wp2_with fail
          refine (spread_calls (Sl.of_own HRR.out.rt.own) HRR.out.arg HM1.out (by omega) (by omega) (by omega)).mono ?_
          rintro e w10 ⟨⟨vp10, vd10, rfl, hp10, hd10⟩, hb10⟩
          have HB10 := Hd.mk (bstep (HB9.out.trans ((HW0.out _ HRR.out.rt.bel).mono HB9.out.size)) hb10)
          have HP10 := Hd.mk hp10
          have HD10 := Hd.mk hd10
          clear hb10 hp10 hd10
          go_wp2_with fail
          refine (gather_new HP10.out HD10.out (by omega) (by rw [plg_spread]; omega)).mono ?_
          rintro e w11 ⟨⟨⟨v11, rfl, hs11⟩, hb11⟩, hf11⟩
          have HF11 : Hd (Frs w.heap.size v11) := ⟨(hf11 _ rfl).mono HB10.out.size⟩
          clear hf11
          rw [gather_spread HRR.out.arg, norm_urun HRR.out.arg, HF.out] at hs11
          have HB11 := Hd.mk (bstep HB10.out hb11)
          have HS11 := Hd.mk hs11
          clear hb11 hs11
          go_wp2_with fail
          go_ret2
          exact ⟨⟨HB11.out, v11, by rw [HTC.out] <;> rfl, fun _ => HS11.out, fun h => absurd HTC.out h⟩, frE HF11.out⟩
    · have HTC : Hd (trc la lb = 2) := ⟨by unfold trc; rw [if_pos H0.out, if_neg hw]⟩
      have hw' : (was lb == (N : Int)) = false := by rw [beq_eq_false_iff_ne, ← HN.out]; exact fun e => hw e.symm
      clear hw
      go_wp2_with fail
      go_ret2
      exact ⟨⟨HB3.out, .slice none 0 0, by rw [HTC.out] <;> rfl, fun h => by rw [HTC.out] at h; exact absurd h (by decide), fun _ => rfl⟩, frE (Frs.nil _)⟩
  · have HTC : Hd (trc la lb = chk2 la lb) := ⟨by unfold trc; rw [if_neg h0]⟩
    have H0 := Hd.mk h0
    have h0' : (chk2 la lb == 0) = false := by rw [beq_eq_false_iff_ne]; exact h0
    clear h0
    generalize chk2 la lb = z at *
    go_wp2_with fail
    go_ret2
    exact ⟨⟨HB1.out, .slice none 0 0, by rw [HTC.out] <;> rfl, fun h => by rw [HTC.out] at h; exact absurd h H0.out, fun _ => rfl⟩, frE (Frs.nil _)⟩
theorem rtrans_calls {la lb : List PT} {va vb : Value} {na nb : Nat} {first : Bool} {w : World} (ha : Sl w 3 va na (opv la)) (hb : Sl w 3 vb nb (opv lb)) (hfa : Few la) (hfb : Few lb) (hna : na ≤ 100) (hnb : nb ≤ 100) :
    Calls Tryz.prog 97 #[va, vb, .bool first] w (RtRes (trc la lb) (tr first (expand (norm la)) (expand (norm lb))) w) :=
  (rtrans_new ha hb (hfa.mo (by have := ha.len; rw [opv_length] at this; omega) hna) (hfb.mo (by have := hb.len; rw [opv_length] at this; omega) hnb)).mono fun _ _ h => h.1
end
end Go.Proofs.YtdgdajnbkfmijaaGreatDoor
