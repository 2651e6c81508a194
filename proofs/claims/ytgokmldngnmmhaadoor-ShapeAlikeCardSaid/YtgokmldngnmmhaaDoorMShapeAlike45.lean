/- Several texts of the proof, one behind the other: ShI, TnB, KeepD. -/
import Derived.Test.YtgokmldngnmmhaaDoorMShapeAlike32
import Derived.Test.YtgokmldngnmmhaaDoorMShapeAlike44
/- What plays does to a document in units: its loop, plain. -/
namespace Go.Proofs.YtgokmldngnmmhaaDoor
/-- What a part puts, and keeps, of the runes d that it goes over. -/
def kept (p : PT) (d : List Int) : List Int := if 0 < p.keep then d else []
/-- Where the loop of plays is: P gone through, Q ahead, T what came. -/
structure PlI (R : List Int) (u : Int) (l : List PT) (k : Nat) (P Q T : List Int) : Prop where
  k_le : k ≤ l.length
  eq : R = P ++ Q
  rest : was (l.drop k) = (cnt Q).of u
  op : ∃ O X, OpR O X P ∧ T = rap X P ∧ (tnF R u 1 Cn.zero 0 l).1 = O ++ (tnF R u 1 (cnt P) ((cnt P).of u) (l.drop k)).1 ∧ (tnF R u 1 Cn.zero 0 l).2 = (tnF R u 1 (cnt P) ((cnt P).of u) (l.drop k)).2
  siz : bl T + plen (l.drop k) ≤ bl P + plen l
theorem PlI.start {R : List Int} {u : Int} {l : List PT} (h : was l = (cnt R).of u) : PlI R u l 0 [] R [] :=
  ⟨Nat.zero_le _, rfl, h, ⟨[], [], .nil, rfl, by rw [cnt_nil, of_zero]; rfl, by rw [cnt_nil, of_zero]; rfl⟩, by simp⟩
theorem rap_snoc {α : Type} {X Y : List (RU α)} {R S : List α} (h : rwas X = R.length) : rap (X ++ Y) (R ++ S) = rap X R ++ rap Y S := by
  induction X generalizing R with
  | nil => obtain rfl := List.length_eq_zero_iff.1 h.symm; simp [rap]
  | cons x X ih =>
    cases x with
    | p r => simp only [List.cons_append, rap, ih (R := R) h]
    | k => cases R with
      | nil => simp [rwas] at h
      | cons r R => simp only [List.cons_append, rap, ih (R := R) (by simpa [rwas] using h)]
    | d => cases R with
      | nil => simp [rwas] at h
      | cons r R => simp only [List.cons_append, rap, ih (R := R) (by simpa [rwas] using h)]
/-- The place behind a part is none: it ends there. -/
theorem PlI.stop {R : List Int} {u : Int} {l : List PT} {k : Nat} {P Q T : List Int} (h : PlI R u l k P Q T) (hu : 1 ≤ u ∧ u ≤ 3) (hg : ∀ p ∈ l, p.Good) (hk : k < l.length) (hno : ∀ d q, Q = d ++ q → (cnt d).of u ≠ l[k].keep + l[k].drop) : (tnF R u 1 Cn.zero 0 l).2 = 10 := by
  obtain ⟨O, X, -, -, -, e⟩ := h.op
  have hn := (hg _ (List.getElem_mem hk)).1.2
  obtain ⟨c, e', hA⟩ := ahead_ex u ((cnt P).of u + (l[k].keep + l[k].drop)) R
  have hr := h.rest
  have hin : ¬ ((cnt P).of u + (l[k].keep + l[k].drop) < 0 ∨ (cnt R).of u < (cnt P).of u + (l[k].keep + l[k].drop)) := by
    have h1 := of_nn P u
    have h2 : 0 ≤ was (l.drop (k + 1)) := was_nn fun p hp => (hg p (List.mem_of_mem_drop hp)).1
    rw [tn_drop hk, was] at hr
    rw [h.eq, cnt_app_of]
    omega
  have h10 : e' = 10 := by
    rcases hA.2.2 (by omega) hin with ⟨-, hp⟩ | ⟨e2, -⟩
    · rw [h.eq] at hp
      obtain ⟨d, q, rfl, -, hd⟩ := pl_behind rfl (by omega) hu hp
      exact absurd hd (hno d q rfl)
    · exact erV_inj (b := 10) e2
  subst h10
  rw [e, tn_drop hk, tnF_stop hA (by decide)]
/-- One part further. -/
theorem PlI.step {R : List Int} {u : Int} {l : List PT} {k : Nat} {P d q T : List Int} (h : PlI R u l k P (d ++ q) T) (hu : 1 ≤ u ∧ u ≤ 3) (hg : ∀ p ∈ l, p.Good) (hk : k < l.length) (hd : (cnt d).of u = l[k].keep + l[k].drop) {rs : List Int} (hrs : l[k].put = U.encs rs) (hal : U.AllR rs) :
    PlI R u l (k + 1) (P ++ d) q (T ++ (kept l[k] d ++ rs)) := by
  obtain ⟨O, X, ho, ht, e1, e2⟩ := h.op
  have hgk := hg _ (List.getElem_mem hk)
  have hn := hgk.1.2
  have hA : AheadR u ((cnt P).of u + (l[k].keep + l[k].drop)) R (cnt (P ++ d)) (erV 0) := Pl.ahead hu ⟨P ++ d, q, by rw [h.eq, List.append_assoc], by rw [cnt_app_of, hd], rfl⟩
  have e3 : (cnt P).of u + (l[k].keep + l[k].drop) = (cnt (P ++ d)).of u := by rw [cnt_app_of, hd]
  have hr := h.rest
  rw [tn_drop hk, was, cnt_app_of] at hr
  rw [tn_drop hk, tnF_step hA, e3] at e1 e2
  have hs := h.siz
  rw [tn_drop hk, plen, hrs] at hs
  have hbr : (U.encs rs).length = bl rs := rfl
  have e4 : (cnt (P ++ d)).of 1 - (cnt P).of 1 = bl d := by rw [cnt_app_of, of_one_bl d]; omega
  rw [e4] at e1
  have hd0 : l[k].keep + l[k].drop = 0 → d = [] := fun e => by
    have := of_len d hu
    exact List.length_eq_zero_iff.1 (by omega)
  have hd1 : 0 < l[k].keep + l[k].drop → d ≠ [] := fun e e' => by
    subst e'
    rw [cnt_nil, of_zero] at hd
    omega
  refine ⟨by omega, by rw [h.eq, List.append_assoc], by omega, ?_, ?_⟩
  · generalize l[k] = p at *
    rcases hgk.1.cases with ⟨b, hb, rfl⟩ | ⟨n, hn', rfl⟩ | ⟨n, hn', rfl⟩
    · dsimp only at hrs hd0 hd1
      subst hrs
      obtain rfl := hd0 rfl
      have hne : rs ≠ [] := by rintro rfl; exact hb rfl
      have hx := OpR.put hne hal OpR.nil
      refine ⟨O ++ [⟨0, 0, U.encs rs⟩], X ++ (rs.map .p ++ []), by have := ho.append hx; rwa [List.append_nil] at this ⊢, ?_, ?_, e2⟩
      · have e5 := rap_snoc (X := X) (Y := rs.map .p ++ []) (R := P) (S := []) ho.was_
        have e6 := rap_ps rs [] []
        rw [e5, e6, ← ht]
        simp [kept, rap]
      · rw [e1, tnP_put]; simp
    · dsimp only at hrs hd0 hd1
      have hrs0 : rs = [] := by
        by_cases e : rs = []
        · exact e
        · exact absurd hrs.symm (encs_ne e)
      subst hrs0
      have hne := hd1 (by omega)
      have hx := OpR.drop hne OpR.nil
      refine ⟨O ++ [⟨0, (bl d : Nat), []⟩], X ++ (List.replicate d.length .d ++ []), by have := ho.append hx; rwa [List.append_nil d] at this, ?_, ?_, e2⟩
      · rw [rap_snoc ho.was_, ← ht]
        have := rap_ds' d [] []
        rw [List.append_nil d] at this
        rw [this]
        simp [kept, rap]
      · rw [e1, tnP_drop hn']; simp
    · dsimp only at hrs hd0 hd1
      have hrs0 : rs = [] := by
        by_cases e : rs = []
        · exact e
        · exact absurd hrs.symm (encs_ne e)
      subst hrs0
      have hne := hd1 (by omega)
      have hx := OpR.keep hne OpR.nil
      refine ⟨O ++ [⟨(bl d : Nat), 0, []⟩], X ++ (List.replicate d.length .k ++ []), by have := ho.append hx; rwa [List.append_nil d] at this, ?_, ?_, e2⟩
      · rw [rap_snoc ho.was_, ← ht]
        have := rap_ks' d [] []
        rw [List.append_nil d] at this
        rw [this]
        unfold kept
        rw [if_pos (by dsimp only; omega)]
        simp [rap]
      · rw [e1, tnP_keep hn']; simp
  · rw [bl_append, bl_append, bl_append]
    have hkd : bl (kept l[k] d) ≤ bl d := by unfold kept; split <;> simp
    omega
/-- All of it was done. -/
theorem PlI.finish {R : List Int} {u : Int} {l : List PT} {k : Nat} {P Q T : List Int} (h : PlI R u l k P Q T) (hu : 1 ≤ u ∧ u ≤ 3) (hk : k = l.length) : (tnF R u 1 Cn.zero 0 l).2 = 0 ∧ ∃ X, OpR (tnF R u 1 Cn.zero 0 l).1 X R ∧ T = rap X R := by
  obtain ⟨O, X, ho, ht, e1, e2⟩ := h.op
  have hr := h.rest
  rw [hk, List.drop_length] at e1 e2 hr
  rw [tnF] at e1 e2
  rw [was] at hr
  have hq : Q = [] := by
    have := of_len Q hu
    exact List.length_eq_zero_iff.1 (by omega)
  subst hq
  have he := h.eq
  rw [List.append_nil] at he e1
  subst he
  exact ⟨e2, X, by rw [e1]; exact ho, ht⟩
end Go.Proofs.YtgokmldngnmmhaaDoor
/- Turned into bytes and back: the operation itself. Plain. -/
namespace Go.Proofs.YtgokmldngnmmhaaDoor
theorem tnF_back {R P Q : List Int} {u : Int} {l : List PT} (hu : 1 ≤ u ∧ u ≤ 3) (hR : R = P ++ Q) (hg : ∀ p ∈ l, p.Good) (hw : was l = (cnt Q).of u) (hk : (tnF R u 1 (cnt P) ((cnt P).of u) l).2 = 0) :
    tnF R 1 u (cnt P) ((cnt P).of 1) (tnF R u 1 (cnt P) ((cnt P).of u) l).1 = (l, 0) := by
  induction l generalizing P Q with
  | nil => rfl
  | cons p l ih =>
    obtain ⟨c, k, hA⟩ := ahead_ex u ((cnt P).of u + (p.keep + p.drop)) R
    have hgp := hg p (by simp)
    have hgl : ∀ q ∈ l, q.Good := fun q hq => hg q (by simp [hq])
    by_cases h0 : k = 0
    · subst h0
      rw [tnF_step hA] at hk ⊢
      have hpl := hA.nil
      rw [hR] at hpl
      have hnn := hgp.1.2
      obtain ⟨d, q, rfl, rfl, hd⟩ := pl_behind rfl (by omega) hu hpl
      have e1 : (cnt P).of u + (p.keep + p.drop) = (cnt (P ++ d)).of u := by rw [cnt_app_of, hd]
      rw [was, cnt_app_of, hd] at hw
      rw [e1] at hk ⊢
      dsimp only at hk ⊢
      have hi := ih (P := P ++ d) (Q := q) (by rw [hR, List.append_assoc]) hgl (by omega) hk
      have e2 : (cnt (P ++ d)).of 1 - (cnt P).of 1 = bl d := by rw [cnt_app_of, of_one_bl d]; omega
      have e3 : (cnt (P ++ d)).of u - (cnt P).of u = p.keep + p.drop := by rw [cnt_app_of, hd]; omega
      rw [e2]
      have key : ∀ p' : PT, p'.keep + p'.drop = (bl d : Int) → tnP p' (p.keep + p.drop) = p → tnF R 1 u (cnt P) ((cnt P).of 1) (p' :: (tnF R u 1 (cnt (P ++ d)) ((cnt (P ++ d)).of u) l).1) = (p :: l, 0) := by
        intro p' hp' ht
        have e4 : (cnt P).of 1 + (p'.keep + p'.drop) = (cnt (P ++ d)).of 1 := by rw [cnt_app_of, of_one_bl d, hp']
        have hB : AheadR 1 ((cnt P).of 1 + (p'.keep + p'.drop)) R (cnt (P ++ d)) (erV 0) := Pl.ahead (by decide) ⟨P ++ d, q, by rw [hR, List.append_assoc], e4.symm, rfl⟩
        rw [tnF_step hB, e4, e3, hi, ht]
      rcases hgp.1.cases with ⟨b, hb, rfl⟩ | ⟨n, hn, rfl⟩ | ⟨n, hn, rfl⟩
      · have hd0 : d = [] := by
          have := of_len d hu
          dsimp only at hd
          exact List.length_eq_zero_iff.1 (by omega)
        subst hd0
        rw [tnP_put]
        exact key _ rfl (tnP_put _ _)
      · have hd0 : 0 < bl d := bl_pos (by
          rintro rfl
          rw [cnt_nil, of_zero] at hd
          dsimp only at hd
          omega)
        rw [tnP_drop hn]
        refine key _ (by simp) ?_
        dsimp only
        rw [tnP_drop hd0]
        simp
      · have hd0 : 0 < bl d := bl_pos (by
          rintro rfl
          rw [cnt_nil, of_zero] at hd
          dsimp only at hd
          omega)
        rw [tnP_keep hn]
        refine key _ (by simp) ?_
        dsimp only
        rw [tnP_keep hd0]
        simp
    · rw [tnF_stop hA h0] at hk
      exact absurd hk h0
/-- What comes back of a turn into bytes. -/
theorem tnR_back {R : List Int} {l o l' : List PT} {u k' : Int} (hu : 1 ≤ u ∧ u ≤ 3) (h : TnR R l u 1 o 0) (h' : TnR R o 1 u l' k') : l' = l ∧ k' = 0 := by
  obtain ⟨⟨X, hX⟩, -, -, hg, hw⟩ := tnR_opr hu h
  have hc : chk l ((cnt R).of u) = 0 := chk_of hg hw
  obtain ⟨e1, e2⟩ := h.2.2 ⟨hu, by decide⟩ hc
  rw [if_pos rfl] at e2
  have hc' : chk o ((cnt R).of 1) = 0 := by rw [of_one_bl]; exact hX.chk_
  obtain ⟨f1, f2⟩ := h'.2.2 ⟨by decide, hu⟩ hc'
  have z : ((cnt ([] : List Int)).of u) = 0 := by rw [cnt_nil, of_zero]
  have z1 : ((cnt ([] : List Int)).of 1) = 0 := by rw [cnt_nil, of_zero]
  have hb := tnF_back (R := R) (P := []) (Q := R) hu rfl hg hw (by rw [z, cnt_nil]; exact e1.symm)
  rw [z, z1, cnt_nil, ← e2] at hb
  rw [hb] at f1 f2
  dsimp only at f1 f2
  subst f1
  rw [if_pos rfl] at f2
  exact ⟨f2, rfl⟩
end Go.Proofs.YtgokmldngnmmhaaDoor
/- keep.done: two that put at one place. -/
namespace Go.Proofs.YtgokmldngnmmhaaDoor
open Go.RowKit
set_option maxRecDepth 100000
theorem sl_lit {size n : Nat} {ty : TypeId} {xs : List Value} {cs : Array Value} (w : World) (hc : cs.toList = xs) (h : xs.length = n * size) (hm : n ≤ maxLen) : Sl (w.alloc (.cells cs ty)) size (.slice (some ⟨w.heap.size, 0, none⟩) n n) n xs := by
  refine ⟨_, _, rfl, h, Nat.le_refl _, hm, (fun h => nomatch h), fun _ => ⟨_, rfl, by simp, fun j u hu => ?_⟩⟩
  have : (⟨w.heap.size, 0, none⟩ : Addr).add j = ⟨w.heap.size, j, none⟩ := by unfold Addr.add; split <;> simp_all
  rw [this, (Blk.new w ty cs).cell j, ← Array.getElem?_toList, hc]; exact hu
abbrev kdA : List PT := [⟨0, 0, [120]⟩, ⟨1, 0, []⟩]
abbrev kdB : List PT := [⟨0, 0, [121, 122]⟩, ⟨1, 0, []⟩]
theorem kd_spx : U.Sp [120] [120] [] := ⟨by intro r hr; obtain rfl := List.mem_singleton.1 hr; decide, by decide, by decide⟩
theorem sp_yz : U.Sp [121, 122] [121, 122] [] := ⟨by
  intro r hr
  rcases List.mem_cons.1 hr with rfl | hr
  · decide
  · obtain rfl := List.mem_singleton.1 hr; decide, by decide, by decide⟩
theorem kd_ga : ∀ p ∈ kdA, p.Good := by
  intro p hp
  rcases List.mem_cons.1 hp with rfl | hp
  · exact ⟨by decide, [120], kd_spx⟩
  · obtain rfl := List.mem_singleton.1 hp
    exact ⟨by decide, [], sp_nil⟩
theorem kd_gb : ∀ p ∈ kdB, p.Good := by
  intro p hp
  rcases List.mem_cons.1 hp with rfl | hp
  · exact ⟨by decide, [121, 122], sp_yz⟩
  · obtain rfl := List.mem_singleton.1 hp
    exact ⟨by decide, [], sp_nil⟩
theorem kd_ma : Mo kdA 2 := ⟨by decide, by decide, fun _ => by decide⟩
theorem kd_mb : Mo kdB 2 := ⟨by decide, by decide, fun _ => by decide⟩
theorem kd_c : trc kdA kdB = 0 := by
  unfold trc chk2
  rw [show was kdA = 1 from rfl, show was kdB = 1 from rfl, wrap_id (a := 1) (by decide) (by decide), chk_of kd_ga (by decide), if_pos rfl, chk_of kd_gb (by decide), if_pos rfl, if_pos (by decide)]
theorem kd_na : expand (norm kdA) = [PT.byte 120, PT.k1] := by rfl
theorem kd_nb : expand (norm kdB) = [PT.byte 121, PT.byte 122, PT.k1] := by rfl
theorem kd_t : urun (tr true (expand (norm kdA)) (expand (norm kdB))) = [⟨0, 0, [120]⟩, ⟨3, 0, []⟩] := by
  rw [kd_na, kd_nb]
  simp [tr, isPut, PT.byte, PT.k1]
  rfl
theorem kd_f : urun (tr false (expand (norm kdA)) (expand (norm kdB))) = [⟨2, 0, []⟩, ⟨0, 0, [120]⟩, ⟨1, 0, []⟩] := by
  rw [kd_na, kd_nb]
  simp [tr, isPut, PT.byte, PT.k1]
  rfl
theorem kd_post {first : Bool} {l : List PT} {n : Nat} (hl : l.length = n) (hu : urun (tr first (expand (norm kdA)) (expand (norm kdB))) = l) {W : World} (hg : Hdl W) :
    Calls Tryd.prog 46 #[.slice (some ⟨W.heap.size, 0, none⟩) 2 2, .slice (some ⟨W.heap.size + 1, 0, none⟩) 2 2, .bool first] ((W.alloc (.cells #[.int .i64 0, .int .i64 0, .string ⟨#[120]⟩, .int .i64 1, .int .i64 0, .string ⟨#[]⟩] 111)).alloc (.cells #[.int .i64 0, .int .i64 0, .string ⟨#[121, 122]⟩, .int .i64 1, .int .i64 0, .string ⟨#[]⟩] 111))
      fun e w' => Below W.heap.size W w' ∧ ∃ A c, e = .returned (.tuple #[.slice A n c, .nilIface]) ∧ Sl w' 3 (.slice A n c) n (opv l) := by
  have h1 := sl_lit (size := 3) (n := 2) (ty := 111) (xs := opv kdA) (cs := #[.int .i64 0, .int .i64 0, .string ⟨#[120]⟩, .int .i64 1, .int .i64 0, .string ⟨#[]⟩]) W rfl rfl (by decide)
  have h2 := sl_lit (size := 3) (n := 2) (ty := 111) (xs := opv kdB) (cs := #[.int .i64 0, .int .i64 0, .string ⟨#[121, 122]⟩, .int .i64 1, .int .i64 0, .string ⟨#[]⟩]) (W.alloc (.cells #[.int .i64 0, .int .i64 0, .string ⟨#[120]⟩, .int .i64 1, .int .i64 0, .string ⟨#[]⟩] 111)) rfl rfl (by decide)
  rw [World.size_alloc] at h2
  have hb2 := ex_alloc (ex_alloc (Below.refl W.heap.size W) (.cells #[.int .i64 0, .int .i64 0, .string ⟨#[120]⟩, .int .i64 1, .int .i64 0, .string ⟨#[]⟩] 111)) (.cells #[.int .i64 0, .int .i64 0, .string ⟨#[121, 122]⟩, .int .i64 1, .int .i64 0, .string ⟨#[]⟩] 111)
  refine (otrans_mo (hg.below hb2) (h1.below (ex_alloc (Below.refl _ _) _)) h2 kd_ma kd_mb).mono ?_
  rintro e w' ⟨hb3, v, rfl, hs, -⟩
  have hs := hs kd_c
  rw [hu, hl] at hs
  obtain ⟨A, c, rfl, -⟩ := id hs
  exact ⟨bstep hb2 hb3, A, c, by rw [kd_c, errOf_zero], hs⟩
set_option maxHeartbeats 2000000 in
theorem keepdone_calls {w : World} (hg : Hdl w) : Calls Tryd.prog 44 #[] w fun e w' => e = .returned (.bool true) ∧ Below w.heap.size w w' := by
  have HG := Hd.mk hg
  have HT := Hd.mk kd_t
  have HF := Hd.mk kd_f
  clear hg
  go_enter Tryd.func44, Tryd.ntmps44
  go_wp2_with fail
  refine (kd_post (n := 2) rfl HT.out HG.out).mono ?_
  rintro e w1 ⟨hb1, A1, c1, rfl, hs1⟩
  have HB1 := Hd.mk hb1
  have HS1 := Hd.mk hs1
  clear hb1 hs1
  go_wp2_with fail
  refine (kd_post (n := 3) rfl HF.out (HG.out.below HB1.out)).mono ?_
  rintro e w2 ⟨hb2, A2, c2, rfl, hs2⟩
  have HB2 := Hd.mk (bstep HB1.out hb2)
  have HS12 := Hd.mk (HS1.out.below hb2)
  have HS2 := Hd.mk hs2
  clear hb2 hs2
  go_wp2_with fail
  have hx3 : Below w2.heap.size w2 (w2.alloc (.cells #[.int .i64 0, .int .i64 0, .string ⟨#[120]⟩, .int .i64 3, .int .i64 0, .string ⟨#[]⟩] 111)) := ex_alloc (Below.refl _ _) _
  refine (same_calls (HS12.out.below hx3) (sl_lit w2 rfl rfl (by decide))).mono ?_
  rintro e w3 ⟨rfl, hb3⟩
  have HB3 := Hd.mk (bstep (bstep HB2.out hx3) hb3)
  have HS23 := Hd.mk ((HS2.out.below hx3).below hb3)
  clear hb3 hx3
  go_wp2_with fail
  have hx4 : Below w3.heap.size w3 (w3.alloc (.cells #[.int .i64 2, .int .i64 0, .string ⟨#[]⟩, .int .i64 0, .int .i64 0, .string ⟨#[120]⟩, .int .i64 1, .int .i64 0, .string ⟨#[]⟩] 111)) := ex_alloc (Below.refl _ _) _
  refine (same_calls (HS23.out.below hx4) (sl_lit w3 rfl rfl (by decide))).mono ?_
  rintro e w4 ⟨rfl, hb4⟩
  have HB4 := Hd.mk (bstep (bstep HB3.out hx4) hb4)
  clear hb4 hx4
  go_wp2_with fail
  go_ret
  exact ⟨rfl, HB4.out⟩
end Go.Proofs.YtgokmldngnmmhaaDoor
