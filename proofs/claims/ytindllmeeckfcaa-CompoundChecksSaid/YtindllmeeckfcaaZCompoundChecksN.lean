/-
  Graphs: members, depths, common clusters.; Nested clusters: compound.Place.; Graphs: chains of clusters, without a program.; Nested clusters: checks of the program: inside, apart.; Nested clusters: Check of the program.; Nested clusters: Check of the reference: lists, sizes, places inside.
-/
import Derived.Test.YtindllmeeckfcaaZCompoundChecksM
namespace Go.Proofs.Ytindllmeeckfcaa.rv
set_option maxRecDepth 10000
open Go.RV
theorem valid_parts {g : Gd} (h : validE g = 0) : (g.N.length ≤ 64 ∧ g.E.length ≤ 256 ∧ g.C.length ≤ 16) ∧ isName g.nm = true ∧ (∀ k, k < g.N.length → nodeE g.N g.C k = 0) ∧ (∀ k, k < g.C.length → cluE g.N g.C k = 0) ∧ ∀ k, k < g.E.length → edgeE g.N (el g.E k) = 0 := by
  unfold validE at h
  split at h
  · omega
  · split at h
    · split at h
      · rename_i h0 h1 h2
        split at h
        · rename_i h3
          exact ⟨by omega, h1, fe_ok.1 h2, fe_ok.1 h3, fe_ok.1 h⟩
        · omega
      · omega
    · omega
theorem node_cl {N C : List (List D)} {i : Nat} (h : nodeE N C i = 0) : -1 ≤ cI (el N i) 4 ∧ cI (el N i) 4 < C.length := by
  unfold nodeE at h
  split at h
  · split at h
    · omega
    · split at h
      · split at h
        · rename_i h1
          simp only [Bool.and_eq_true, Bool.not_eq_true', decide_eq_false_iff_not] at h1
          omega
        · omega
      · omega
  · omega
theorem valid_okV {g : Gd} (h : validE g = 0) : okV g := by
  obtain ⟨⟨h1, _, h3⟩, _, h4, h5, _⟩ := valid_parts h
  exact ⟨h1, h3, okC_of h5, fun v hv => node_cl (h4 v hv)⟩
theorem okV_at {g : Gd} (h : okV g) {c : Int} (h0 : -1 ≤ c) (h1 : c < g.C.length) : atC g.C c := ⟨h0, h1, h.2.1, h.2.2.1.mono (by omega)⟩
theorem fits_get : ∀ {cts : List CT} {x : List D}, FitsF cts x → ∀ {j : Nat} {ct : CT}, cts[j]? = some ct → Wf ct (x.getD j default)
  | [], [], _, j, ct, hj => by simp at hj
  | c :: cts, d :: ds, ⟨h, h'⟩, 0, ct, hj => by simp at hj; subst hj; exact h
  | c :: cts, d :: ds, ⟨h, h'⟩, j + 1, ct, hj => by simpa using fits_get h' (j := j) (by simpa using hj)
  | [], _ :: _, h, _, _, _ => h.elim
  | _ :: _, [], h, _, _, _ => h.elim
theorem row_i {N : List (List D)} {cts : List CT} (h : ∀ x ∈ N, FitsF cts x) {j : Nat} (hj : cts[j]? = some (.int .i64)) {i : Nat} (hi : i < N.length) : (el N i).getD j default = .i (cI (el N i) j) := by
  obtain ⟨z, e, _⟩ := wf_i64 (fits_get (h _ (getD_mem [] hi)) hj)
  simp only [cI]
  rw [e]; rfl
theorem loopM98_0 : LoopMeets Try.prog F (R L98_0.key) L98_0 lb98_0 := by
  refine loop_meets (pre := R) mixed (sgAt_all (P := Try.prog) (pre := R) (Φ := F) (l := sg98) ((fun _ h => nomatch h))) (loops_n 0 lk98_0 fun k hk => by omega) L98_0 (fun ρ => ((ρ.getD 2 default).int + 1).toNat) le98_0 fun ρ _ hq => ?_
  obtain ⟨c, v, k, g, rfl, hat, hrow⟩ : prHas ρ := hq
  have hat0 := hat
  obtain ⟨h1, h2, h3, h4⟩ := hat
  by_cases h0 : 0 ≤ k
  · have hn : k.toNat < g.C.length := by omega
    have hr : (g.C.getD k.toNat []).getD 1 default = .i (cI (el g.C k.toNat) 1) := hrow _ hn
    have hb := h4 k.toNat (by omega)
    by_cases hc : k = c
    · subst hc
      simp (disch := omega) only [rt98_0, VT.ok, X.ds, X.d, Op2.ev, List.getD_cons_zero, List.getD_cons_succ, D.int_i, D.bool_b, ↓reduceIte, dle_t, beq_t]
      refine round_exit (by omega) ?_
      show lpHas [.i k, v, .i k, .s g.nm, .b g.dr, .l g.N, .l g.E, .l g.C] = _
      simp only [lpHas, around_at h0 h4]
      rw [if_pos (by simp)]
    · simp (disch := omega) only [rt98_0, VT.ok, Nd.holds, X.ds, X.d, Op1.ev, Op2.ev, List.getD_cons_zero, List.getD_cons_succ, D.int_i, D.bool_b, D.lst_l, Bool.false_eq_true, implies_true, true_and, ↓reduceIte, dle_t, dlt_t, beq_f, hr]
      refine round_next ⟨⟨c, v, cI (el g.C k.toNat) 1, g, rfl, atC_up hat0 h0, hrow⟩, ?_, ?_⟩
      · show (cI (el g.C k.toNat) 1 + 1).toNat < (k + 1).toNat
        omega
      · show lpHas [.i c, v, .i (cI (el g.C k.toNat) 1), .s g.nm, .b g.dr, .l g.N, .l g.E, .l g.C] = lpHas [.i c, v, .i k, .s g.nm, .b g.dr, .l g.N, .l g.E, .l g.C]
        simp only [lpHas, around_at h0 h4]
        rw [List.contains_cons, show (c == k) = false from beq_f (by omega), Bool.false_or]
  · simp (disch := omega) only [rt98_0, VT.ok, X.ds, X.d, Op2.ev, List.getD_cons_zero, List.getD_cons_succ, D.int_i, D.bool_b, Bool.false_eq_true, ↓reduceIte, dle_f]
    refine round_exit (by omega) ?_
    show lpHas [.i c, v, .i k, .s g.nm, .b g.dr, .l g.N, .l g.E, .l g.C] = _
    have : k = -1 := by omega
    subst this
    simp only [lpHas, around_neg (show (-1 : Int) < 0 by omega)]
    rfl
theorem m98 : Meets Try.prog 98 S98 (R 98) (F 98) := by
  refine meets_of_vt (pre := R) (Φ := F) mixed (sgAt_all (P := Try.prog) (pre := R) (Φ := F) (l := sg98) ((fun _ h => nomatch h))) Try.func98 b98 n98 (loops_n 1 k98 fun k hk => match k, hk with | 0, _ => loop_this lf98_0 loopM98_0) e98 fun ds hf hq => ?_
  obtain ⟨g, ds', rfl, h5, _, ⟨_, hN⟩, _, ⟨_, hC⟩⟩ := fitsG hf.flat
  obtain ⟨x, y, rfl, hx, _⟩ := fits2 h5
  obtain ⟨c, rfl, _⟩ := wf_i64 hx
  obtain ⟨hv, hc, v, e, hlt⟩ : prHasF (.s g.nm :: .b g.dr :: .l g.N :: .l g.E :: .l g.C :: [.i c, y]) := hq
  have e : y = .i (v : Int) := e
  subst e
  have hc : -1 ≤ c := hc
  have hlt : v < g.N.length := hlt
  have hv : okV g := hv
  have hb := hv.2.2.2 v hlt
  have hat := okV_at hv hb.1 hb.2
  by_cases h0 : c = -1
  · subst h0
    simp (disch := omega) only [vt98, VT.ok, X.ds, X.d, Op2.ev, List.getD_cons_zero, List.getD_cons_succ, D.int_i, D.bool_b, D.lst_l, Int.toNat_natCast, F98, ↓reduceIte, dlt_t, beq_t, hasD, inN, cL, cI, Bool.true_or]
  · have hr : (g.N.getD v []).getD 4 default = .i (cI (el g.N v) 4) := row_i hN rfl hlt
    generalize cI (el g.N v) 4 = z at *
    have hpre : prHas [.i c, .b false, .i z, .s g.nm, .b g.dr, .l g.N, .l g.E, .l g.C] := ⟨c, _, _, g, rfl, hat, rowI1_of hC⟩
    simp (disch := omega) only [vt98, VT.ok, Nd.holds, X.outs, X.ds, X.d, Op1.ev, Op2.ev, List.cons_append, List.nil_append, List.getD_cons_zero, List.getD_cons_succ, D.int_i, D.bool_b, D.lst_l, Int.toNat_natCast, Bool.false_eq_true, implies_true, true_and, F19800, R19800, F98, ↓reduceIte, dle_t, dlt_t, dlt_f, beq_f, hasD, inN, cL, cI, hr, Bool.false_or]
    refine ⟨fun _ => hpre, ?_⟩
    cases h : (around g.C z).contains c
    · simp only [lpHas, h, Bool.false_eq_true, if_false, takeD_zero, takeD_cons, List.getD_cons_zero, List.getD_cons_succ, D.int_i, Bool.false_eq_true, if_false]
      rw [if_neg (by decide)]; trivial
    · simp only [lpHas, h, if_true, takeD_zero, takeD_cons, List.getD_cons_zero, List.getD_cons_succ, D.int_i, if_true]
      rw [if_pos (by rfl)]; trivial
theorem any_map (l : List Int) (c : Int) : anyN (fun j => c == cI (el (l.map encI) j) 0) l.length = l.contains c := by
  rw [Bool.eq_iff_iff, anyN_iff, List.contains_iff_mem]
  have e : ∀ j, j < l.length → cI (el (l.map encI) j) 0 = l.getD j 0 := fun j hj => by
    simp only [cI, el]
    rw [rowI hj]; rfl
  constructor
  · rintro ⟨j, hj, h⟩
    rw [e j hj] at h
    have : c = l.getD j 0 := by simpa using h
    rw [this]
    exact getD_mem 0 hj
  · intro h
    obtain ⟨j, hj, rfl⟩ := List.mem_iff_getElem.1 h
    exact ⟨j, hj, by rw [e j hj]; simp [List.getD, hj]⟩
theorem loopM60_0 : LoopMeets Try.prog F (R L60_0.key) L60_0 lb60_0 := by
  refine loop_meets (pre := R) mixed (sgAt_all (P := Try.prog) (pre := R) (Φ := F) (l := sg60) (List.forall_mem_cons.2 ⟨Meets.at (pre := R) (Φ := F) m26, List.forall_mem_cons.2 ⟨Meets.at (pre := R) (Φ := F) m89, List.forall_mem_cons.2 ⟨Meets.at (pre := R) (Φ := F) m61, (fun _ h => nomatch h)⟩⟩⟩)) (loops_n 0 lk60_0 fun k hk => by omega) L60_0 (fun ρ => ((ρ.getD 2 default).int - (ρ.getD 3 default).int).toNat) le60_0 fun ρ _ hq => ?_
  obtain ⟨c, g, j, acc, rfl, hj, hv, hc, ha⟩ : prMem ρ := hq
  have h64 := hv.1
  by_cases hlt : j < g.N.length
  · have hb := hv.2.2.2 j hlt
    have hat := okV_at hv hb.1 hb.2
    have hN : ∀ xs, xs = inR g.N g.C c j → RoundOk F (R L60_0.key) (fun ρ => ((ρ.getD 2 default).int - (ρ.getD 3 default).int).toNat) L60_0 [.i c, .l g.N, .i (g.N.length : Int), .i (j : Int), .s g.nm, .b g.dr, .l g.N, .l g.E, .l g.C, .l acc] [.i (-1), .i ((j + 1 : Nat) : Int), .l (acc ++ xs)] := by
      rintro xs rfl
      have hl : (inR g.N g.C c j).length ≤ 1 := by unfold inR; split <;> simp
      refine round_next ⟨⟨c, g, j + 1, _, rfl, by omega, hv, hc, by rw [List.length_append]; omega⟩, ?_, ?_⟩
      · show ((g.N.length : Int) - ((j + 1 : Nat) : Int)).toNat < ((g.N.length : Int) - (j : Int)).toNat
        omega
      · show lpMem [.i c, .l g.N, .i (g.N.length : Int), .i ((j + 1 : Nat) : Int), .s g.nm, .b g.dr, .l g.N, .l g.E, .l g.C, .l (acc ++ inR g.N g.C c j)] = lpMem [.i c, .l g.N, .i (g.N.length : Int), .i (j : Int), .s g.nm, .b g.dr, .l g.N, .l g.E, .l g.C, .l acc]
        simp only [lpMem, Int.toNat_natCast]
        rw [coll_next (f := inR g.N g.C c) hlt acc]
    simp (disch := omega) only [rt60_0, VT.ok, Nd.holds, X.outs, X.ds, X.d, Op1.ev, Op2.ev, takeD_zero, takeD_cons, List.cons_append, List.nil_append, List.getD_cons_zero, List.getD_cons_succ, D.int_i, D.bool_b, D.lst_l, ite_b, ite_or, Int.toNat_natCast, List.length_map, implies_true, true_and, F89, R89, F61, R61, ↓reduceIte, dle_t, dlt_t, w64', aroundD, ciFn, cL, cI, List.length_append, List.length_cons, List.length_nil]
    refine ⟨fun _ => hat, ?_⟩
    show if (decide (c < 0) || anyN (fun k => c == cI (el ((around g.C (cI (el g.N j) 4)).map encI) k) 0) (around g.C (cI (el g.N j) 4)).length) = true then _ else _
    rw [any_map]
    cases h : (decide (c < 0) || (around g.C (cI (el g.N j) 4)).contains c)
    · simp only [Bool.false_eq_true, if_false]
      have := hN [] (by rw [inR, inN, h]; rfl)
      rw [List.append_nil] at this
      exact this
    · simp only [if_true]
      exact hN [[.i (j : Int)]] (by rw [inR, inN, h]; rfl)
  · have hj' : j = g.N.length := by omega
    subst hj'
    simp (disch := omega) only [rt60_0, VT.ok, X.ds, X.d, Op2.ev, List.getD_cons_zero, List.getD_cons_succ, D.int_i, D.bool_b, Bool.false_eq_true, ↓reduceIte, dlt_f]
    refine round_exit (by omega) ?_
    show lpMem [.i c, .l g.N, .i (g.N.length : Int), .i (g.N.length : Int), .s g.nm, .b g.dr, .l g.N, .l g.E, .l g.C, .l acc] = _
    simp only [lpMem, Int.toNat_natCast, coll_end]
theorem valid_c {g : Gd} {c : Int} (h : ¬ (validE g = 0 ∧ -1 ≤ c ∧ c < g.C.length)) : ((!(validE g == 0) || decide (c < -1)) || decide ((g.C.length : Int) ≤ c)) = true := by
  simp only [Bool.or_eq_true, Bool.not_eq_true', beq_eq_false_iff_ne, decide_eq_true_eq]
  omega
theorem valid_c' {g : Gd} {c : Int} (h : validE g = 0 ∧ -1 ≤ c ∧ c < g.C.length) : ((!(validE g == 0) || decide (c < -1)) || decide ((g.C.length : Int) ≤ c)) = false := by
  simp only [Bool.or_eq_false_iff, Bool.not_eq_false', beq_iff_eq, decide_eq_false_iff_not]
  omega
theorem gOf_eq (g : Gd) (l : List D) : gOf (.s g.nm :: .b g.dr :: .l g.N :: .l g.E :: .l g.C :: l) = g := rfl
theorem m60 : Meets Try.prog 60 S60 (R 60) (F 60) := by
  refine meets_of_vt (pre := R) (Φ := F) mixed (sgAt_all (P := Try.prog) (pre := R) (Φ := F) (l := sg60) (List.forall_mem_cons.2 ⟨Meets.at (pre := R) (Φ := F) m26, List.forall_mem_cons.2 ⟨Meets.at (pre := R) (Φ := F) m89, List.forall_mem_cons.2 ⟨Meets.at (pre := R) (Φ := F) m61, (fun _ h => nomatch h)⟩⟩⟩)) Try.func60 b60 n60 (loops_n 1 k60 fun k hk => match k, hk with | 0, _ => loop_this lf60_0 loopM60_0) e60 fun ds hf hq => ?_
  obtain ⟨g, ds', rfl, h5, _⟩ := fitsG hf.flat
  obtain ⟨x, rfl, hx⟩ := fits1 h5
  obtain ⟨c, rfl, _⟩ := wf_i64 hx
  by_cases h : validE g = 0 ∧ -1 ≤ c ∧ c < g.C.length
  · have hpre : prMem [.i c, .l g.N, .i (g.N.length : Int), .i 0, .s g.nm, .b g.dr, .l g.N, .l g.E, .l g.C, .l []] := ⟨c, g, 0, [], rfl, by omega, valid_okV h.1, h.2.1, by simp⟩
    simp only [vt60, VT.ok, Nd.holds, X.outs, X.ds, X.d, Op1.ev, Op2.ev, takeD_zero, takeD_cons, List.cons_append, List.nil_append, List.getD_cons_zero, List.getD_cons_succ, D.int_i, D.bool_b, D.lst_l, ite_b, ite_or, Bool.false_eq_true, if_false, implies_true, true_and, and_true, F26, R26, F16000, R16000, F60, validD, gOf_eq, valid_c' h, memD, memR, if_pos h, cI, lpMem, Int.toNat_zero, mems]
    exact fun _ => hpre
  · simp only [vt60, VT.ok, Nd.holds, X.outs, X.ds, X.d, Op1.ev, Op2.ev, takeD_zero, takeD_cons, List.cons_append, List.nil_append, List.getD_cons_zero, List.getD_cons_succ, D.int_i, D.bool_b, D.lst_l, ite_b, ite_or, if_true, implies_true, and_true, F26, R26, F16000, R16000, F60, validD, gOf_eq, valid_c h, memD, memR, if_neg h, cI]
theorem loopM74_0 : LoopMeets Try.prog F (R L74_0.key) L74_0 lb74_0 := by
  refine loop_meets (pre := R) mixed (sgAt_all (P := Try.prog) (pre := R) (Φ := F) (l := sg74) (List.forall_mem_cons.2 ⟨Meets.at (pre := R) (Φ := F) m42, List.forall_mem_cons.2 ⟨Meets.at (pre := R) (Φ := F) m98, (fun _ h => nomatch h)⟩⟩)) (loops_n 0 lk74_0 fun k hk => by omega) L74_0 (fun ρ => (((ρ.getD 4 default).lst.length : Int) - (ρ.getD 1 default).int).toNat) le74_0 fun ρ _ hq => ?_
  obtain ⟨c, g, j, acc, rfl, hj, hv, hc, ha⟩ : prMemR ρ := hq
  have h64 := hv.1
  by_cases hlt : j < g.N.length
  · have hb := hv.2.2.2 j hlt
    have hh : prHasF [.s g.nm, .b g.dr, .l g.N, .l g.E, .l g.C, .i c, .i (j : Int)] := ⟨hv, hc, j, rfl, hlt⟩
    have hN : ∀ xs, xs = inR g.N g.C c j → RoundOk F (R L74_0.key) (fun ρ => (((ρ.getD 4 default).lst.length : Int) - (ρ.getD 1 default).int).toNat) L74_0 [.i c, .i (j : Int), .s g.nm, .b g.dr, .l g.N, .l g.E, .l g.C, .l acc] [.i (-1), .i ((j + 1 : Nat) : Int), .l (acc ++ xs)] := by
      rintro xs rfl
      have hl : (inR g.N g.C c j).length ≤ 1 := by unfold inR; split <;> simp
      refine round_next ⟨⟨c, g, j + 1, _, rfl, by omega, hv, hc, by rw [List.length_append]; omega⟩, ?_, ?_⟩
      · show ((g.N.length : Int) - ((j + 1 : Nat) : Int)).toNat < ((g.N.length : Int) - (j : Int)).toNat
        omega
      · show lpMemR [.i c, .i ((j + 1 : Nat) : Int), .s g.nm, .b g.dr, .l g.N, .l g.E, .l g.C, .l (acc ++ inR g.N g.C c j)] = lpMemR [.i c, .i (j : Int), .s g.nm, .b g.dr, .l g.N, .l g.E, .l g.C, .l acc]
        simp only [lpMemR, Int.toNat_natCast]
        rw [coll_next (f := inR g.N g.C c) hlt acc]
    simp (disch := omega) only [rt74_0, VT.ok, Nd.holds, X.outs, X.ds, X.d, Op1.ev, Op2.ev, takeD_zero, takeD_cons, List.cons_append, List.nil_append, List.getD_cons_zero, List.getD_cons_succ, D.int_i, D.bool_b, D.lst_l, Int.toNat_natCast, implies_true, true_and, F98, R98, ↓reduceIte, dle_t, dlt_t, w64', hasD, cL, cI, Int.toNat_natCast, List.length_append, List.length_cons, List.length_nil]
    refine ⟨fun _ => hh, ?_⟩
    cases h : inN g.N g.C c j
    · simp only [Bool.false_eq_true, if_false]
      have := hN [] (by rw [inR, h]; rfl)
      rw [List.append_nil] at this
      exact this
    · simp only [if_true]
      exact hN [[.i (j : Int)]] (by rw [inR, h]; rfl)
  · have hj' : j = g.N.length := by omega
    subst hj'
    simp (disch := omega) only [rt74_0, VT.ok, X.ds, X.d, Op1.ev, Op2.ev, List.getD_cons_zero, List.getD_cons_succ, D.int_i, D.bool_b, D.lst_l, Bool.false_eq_true, ↓reduceIte, dlt_f]
    refine round_exit (by omega) ?_
    show lpMemR [.i c, .i (g.N.length : Int), .s g.nm, .b g.dr, .l g.N, .l g.E, .l g.C, .l acc] = _
    simp only [lpMemR, Int.toNat_natCast, coll_end]
theorem m74 : Meets Try.prog 74 S74 (R 74) (F 74) := by
  refine meets_of_vt (pre := R) (Φ := F) mixed (sgAt_all (P := Try.prog) (pre := R) (Φ := F) (l := sg74) (List.forall_mem_cons.2 ⟨Meets.at (pre := R) (Φ := F) m42, List.forall_mem_cons.2 ⟨Meets.at (pre := R) (Φ := F) m98, (fun _ h => nomatch h)⟩⟩)) Try.func74 b74 n74 (loops_n 1 k74 fun k hk => match k, hk with | 0, _ => loop_this lf74_0 loopM74_0) e74 fun ds hf hq => ?_
  obtain ⟨g, ds', rfl, h5, _⟩ := fitsG hf.flat
  obtain ⟨x, rfl, hx⟩ := fits1 h5
  obtain ⟨c, rfl, _⟩ := wf_i64 hx
  by_cases h : validE g = 0 ∧ -1 ≤ c ∧ c < g.C.length
  · have hpre : prMemR [.i c, .i 0, .s g.nm, .b g.dr, .l g.N, .l g.E, .l g.C, .l []] := ⟨c, g, 0, [], rfl, by omega, valid_okV h.1, h.2.1, by simp⟩
    simp only [vt74, VT.ok, Nd.holds, X.outs, X.ds, X.d, Op1.ev, Op2.ev, takeD_zero, takeD_cons, List.cons_append, List.nil_append, List.getD_cons_zero, List.getD_cons_succ, D.int_i, D.bool_b, D.lst_l, ite_b, ite_or, Bool.false_eq_true, if_false, implies_true, true_and, and_true, F42, R42, F17400, R17400, F74, validD, gOf_eq, valid_c' h, memD, memR, if_pos h, cI, lpMemR, Int.toNat_zero, mems]
    exact fun _ => hpre
  · simp only [vt74, VT.ok, Nd.holds, X.outs, X.ds, X.d, Op1.ev, Op2.ev, takeD_zero, takeD_cons, List.cons_append, List.nil_append, List.getD_cons_zero, List.getD_cons_succ, D.int_i, D.bool_b, D.lst_l, ite_b, ite_or, if_true, implies_true, and_true, F42, R42, F17400, R17400, F74, validD, gOf_eq, valid_c h, memD, memR, if_neg h, cI]
end Go.Proofs.Ytindllmeeckfcaa.rv
namespace Go.Proofs.Ytindllmeeckfcaa.rv
set_option maxRecDepth 10000
open Go.RV
theorem rowTsz {T : List (List Tp)} {i : Nat} (h : i < T.length) : (T.map encTs).getD i [] = encTs (T.getD i []) := row_get [] h
theorem lpP0_eq (p : Pn) (j : Nat) (M K : List Bx) : lpP0 [.i (p.g.C.length : Int), .i (j : Int), .i p.o.md, .i p.o.ns, .i p.o.rs, .i p.o.m, .i p.o.rd, .l (p.B.map encQ), p.d, .l (M.map encQ), .l (K.map encQ)] =
    [.i 0, .i (p.g.C.length : Int), .l ((putF (arP p) p.T j (M, K)).1.map encQ), .l ((putF (arP p) p.T j (M, K)).2.map encQ)] := by
  simp only [lpP0, pnOf_d, map_decQ, Int.toNat_natCast]
theorem putF_next {a : Ar} {T : List (List Tp)} {j : Nat} {s : Pl} (h : j < a.C.length) : putF a T j s = putF a T (j + 1) (putC a T s j) := fold_next h
theorem putF_end {a : Ar} {T : List (List Tp)} {s : Pl} : putF a T a.C.length s = s := fold_end
theorem getD_memT {T : List (List Tp)} {i : Nat} (h : i < T.length) : T.getD i [] ∈ T := getD_mem [] h
theorem prPu_mk (c x y : Int) (p : Pn) (T : List (List Tp)) (i : Nat) (M K : List Bx) (hi : i < T.length) (hT : ∀ l ∈ T, okTs p.g.C.length l ∧ l.length ≤ 64) (hs : p.small) (hx : -1073741824000 ≤ x ∧ x ≤ 1073741824000) (hy : -1073741824000 ≤ y ∧ y ≤ 1073741824000) (hM : M.length = p.g.N.length) (hK : K.length = p.g.C.length) :
    prPu [.l (p.B.map encQ), p.d, .l (M.map encQ), .l (K.map encQ), .i c, .l ((T.getD i []).map encT), .i x, .i y] :=
  ⟨c, x, y, T.getD i [], p, M, K, rfl, (hT _ (getD_memT hi)).2, hs, hx, hy, (hT _ (getD_memT hi)).1, hM, hK⟩
theorem prP0_mk (p : Pn) (j : Nat) (M K : List Bx) (hj : j ≤ p.g.C.length) (hp : p.good) (hM : M.length = p.g.N.length) (hK : K.length = p.g.C.length) (hn : near ((j + 1 : Nat) * 2147483648) K) :
    prP0 [.i (p.g.C.length : Int), .i (j : Int), .i p.o.md, .i p.o.ns, .i p.o.rs, .i p.o.m, .i p.o.rd, .l (p.B.map encQ), p.d, .l (M.map encQ), .l (K.map encQ)] := ⟨p, j, M, K, rfl, hj, hp, hM, hK, hn⟩
theorem loopM10_0 : LoopMeets Try.prog F (R L10_0.key) L10_0 lb10_0 := by
  refine loop_meets (pre := R) mixed (sgAt_all (P := Try.prog) (pre := R) (Φ := F) (l := sg10) (List.forall_mem_cons.2 ⟨Meets.at (pre := R) (Φ := F) m19, List.forall_mem_cons.2 ⟨Meets.at (pre := R) (Φ := F) m25, List.forall_mem_cons.2 ⟨ProcMeets.at1 mp10_0, List.forall_mem_cons.2 ⟨MeetsAt.name, (fun _ h => nomatch h)⟩⟩⟩⟩)) (loops_n 0 lk10_0 fun k hk => by omega) L10_0 (fun ρ => ((ρ.getD 0 default).int - (ρ.getD 1 default).int).toNat) le10_0 fun ρ _ hq => ?_
  obtain ⟨p, j, M, K, rfl, hj, hp, hM, hK, hn⟩ : prP0 ρ := hq
  have hp' := hp
  obtain ⟨hs, ho, hT, hTl⟩ := hp'
  have hs' := hs
  obtain ⟨⟨f1, f2, f3, f4⟩, hB⟩ := hs'
  have hom := (Od.ok_iff.1 ho).2.2.2.1
  have hlp := lpP0_eq p j M K
  by_cases hlt : j < p.g.C.length
  · have hnear := near_at hn (c := j) (by omega)
    have w1 : IntKind.i64.wrap ((K.getD j z4).1 + p.o.m) = (K.getD j z4).1 + p.o.m := w64 (by omega)
    have w2 : IntKind.i64.wrap ((K.getD j z4).2.1 + p.o.m) = (K.getD j z4).2.1 + p.o.m := w64 (by omega)
    have hpu := prPu_mk (j : Int) ((K.getD j z4).1 + p.o.m) ((K.getD j z4).2.1 + p.o.m) p p.T j M K (by omega) hTl hs (by omega) (by omega) hM hK
    have hpc := pcPu_eq (j : Int) ((K.getD j z4).1 + p.o.m) ((K.getD j z4).2.1 + p.o.m) (p.T.getD j []) p M K
    have hput : putTs p.B (ownL p.g.N (j : Int)) ((K.getD j z4).1 + p.o.m) ((K.getD j z4).2.1 + p.o.m) (p.T.getD j []) (M, K) = putC (arP p) p.T (M, K) j := rfl
    have hlen := pTs_len p.B (ownL p.g.N (j : Int)) ((K.getD j z4).1 + p.o.m) ((K.getD j z4).2.1 + p.o.m) (p.T.getD j []) (M, K)
    have hnr := near_put (n := (j + 1 : Nat) * 2147483648 + 1048576) (m := (j + 1 + 1 : Nat) * 2147483648) (B := p.B) (own := ownL p.g.N (j : Int)) (x := (K.getD j z4).1 + p.o.m) (y := (K.getD j z4).2.1 + p.o.m) (by omega) (by omega) (by omega) (p.T.getD j []) (M, K) (fun t ht => ((hTl _ (getD_memT (by omega))).1 t ht).1) (nearK_mono (by omega) hn)
    rw [hput] at hpc hlen hnr
    rw [putF_next (a := arP p) hlt] at hlp
    have e11 : p.d.ptd.getD 11 default = .l (p.T.map encTs) := rfl
    simp (disch := omega) only [rt10_0, VT.ok, Nd.holds, X.outs, X.ds, X.d, Op1.ev, Op2.ev, takeD_zero, takeD_cons, List.cons_append, List.nil_append, List.getD_cons_zero, List.getD_cons_succ, D.int_i, D.bool_b, D.lst_l, Int.toNat_natCast, List.length_map, implies_true, true_and, F17020000, R17020000, ↓reduceIte, dle_t, dlt_t, w64', e11, List.length_map, rowTsz, rowQz, encTs, encQ, w1, w2, hpc]
    refine ⟨fun _ => rfl, fun _ => hpu, ?_⟩
    refine round_step [.i (p.g.C.length : Int), .i ((j + 1 : Nat) : Int), .i p.o.md, .i p.o.ns, .i p.o.rs, .i p.o.m, .i p.o.rd, .l (p.B.map encQ), p.d, .l ((putC (arP p) p.T (M, K) j).1.map encQ), .l ((putC (arP p) p.T (M, K) j).2.map encQ)] rfl (prP0_mk p (j + 1) _ _ (by omega) hp (hlen.1.trans hM) (hlen.2.trans hK) hnr) ?_ ?_
    · show ((p.g.C.length : Int) - ((j + 1 : Nat) : Int)).toNat < ((p.g.C.length : Int) - (j : Int)).toNat
      omega
    · have e1 := lpP0_eq p (j + 1) (putC (arP p) p.T (M, K) j).1 (putC (arP p) p.T (M, K) j).2
      rw [show F L10_0.key = lpP0 from rfl]
      exact e1.trans hlp.symm
  · have hj : j = p.g.C.length := by omega
    subst hj
    simp (disch := omega) only [rt10_0, VT.ok, X.ds, X.d, Op2.ev, List.getD_cons_zero, List.getD_cons_succ, D.int_i, D.bool_b, Bool.false_eq_true, ↓reduceIte, dlt_f]
    refine round_exit (by omega) ?_
    rw [show F L10_0.key = lpP0 from rfl]
    refine hlp.trans ?_
    rw [show p.g.C.length = (arP p).C.length from rfl, putF_end]
theorem placeD_eq (g : Gd) (o : Od) (B : List Bx) : placeD [.s g.nm, .b g.dr, .l g.N, .l g.E, .l g.C, .i o.md, .i o.ns, .i o.rs, .i o.m, .i o.rd, .l (B.map encQ)] = [.l ((placeR g o B).1.1.map encQ), .l ((placeR g o B).1.2.map encQ), .i (placeR g o B).2] := by
  show (let r := placeR g o ((B.map encQ).map decQ); [D.l (r.1.1.map encQ), .l (r.1.2.map encQ), .i r.2]) = _
  rw [map_decQ]
theorem rep_Q (n : Nat) : List.replicate n [D.i 0, .i 0, .i 0, .i 0] = (List.replicate n z4).map encQ := by
  rw [List.map_replicate]; rfl
theorem m10 : Meets Try.prog 10 S10 (R 10) (F 10) := by
  refine meets_of_vt (pre := R) (Φ := F) mixed (sgAt_all (P := Try.prog) (pre := R) (Φ := F) (l := sg10) (List.forall_mem_cons.2 ⟨Meets.at (pre := R) (Φ := F) m19, List.forall_mem_cons.2 ⟨Meets.at (pre := R) (Φ := F) m25, List.forall_mem_cons.2 ⟨ProcMeets.at1 mp10_0, List.forall_mem_cons.2 ⟨MeetsAt.name, (fun _ h => nomatch h)⟩⟩⟩⟩)) Try.func10 b10 n10 (loops_n 1 k10 fun k hk => match k, hk with | 0, _ => loop_this lf10_0 loopM10_0) e10 fun ds hf _ => ?_
  obtain ⟨g, o, B, ds', rfl, h0, hm, _⟩ := fitsGO hf.flat
  obtain rfl := fits0 h0
  simp only [vt10, VT.ok, Nd.holds, X.outs, X.ds, X.d, Op1.ev, Op2.ev, List.cons_append, List.nil_append, List.getD_cons_zero, List.getD_cons_succ, D.int_i, D.bool_b, D.lst_l, Int.toNat_natCast, implies_true, true_and, F25, R25, F19, R19, F17020000, R17020000, F11000, R11000, F10, planD_eq, placeD_eq]
  by_cases h : inE g o B = 0
  · obtain ⟨h1, h2, h3, h4, h5⟩ := inE_ok h
    obtain ⟨v1, v2⟩ := valid_len h1
    rw [if_pos h]
    cases ha : (arOf g o B).all with
    | none =>
      have hr : placeR g o B = (([], []), 2) := by rw [placeR, if_pos h, ha]
      rw [hr]; rfl
    | some r =>
      obtain ⟨S, T⟩ := r
      have hd := all_done (a := arOf g o B) (valid_okV h1).2.2.1 ha
      have hsl : S.length = g.C.length := hd.sl
      have htl : T.length = g.C.length + 1 := hd.tl
      have hTl : ∀ l ∈ T, okTs g.C.length l ∧ l.length ≤ 64 := hd.okT
      have hbB : ∀ b ∈ B, smQ b := fun b hb => smQ_of (badB_ok h4 b hb)
      generalize hpp : Pn.mk g o B T S = p
      have pg : p.g = g := by rw [← hpp]
      have po : p.o = o := by rw [← hpp]
      have pB : p.B = B := by rw [← hpp]
      have pT : p.T = T := by rw [← hpp]
      have pS : p.S = S := by rw [← hpp]
      have ha' : arP p = arOf g o B := by rw [← hpp]; rfl
      subst pg po pB pT pS
      have hs : p.small := ⟨⟨v1, v2, h3, hsl⟩, hbB⟩
      have hgood : p.good := ⟨hs, h2, htl, hTl⟩
      have hpu := prPu_mk (-1) 0 0 p p.T p.g.C.length (List.replicate p.g.N.length z4) (List.replicate p.g.C.length z4) (by omega) hTl hs (by omega) (by omega) List.length_replicate List.length_replicate
      have hpc := pcPu_eq (-1) 0 0 (p.T.getD p.g.C.length []) p (List.replicate p.g.N.length z4) (List.replicate p.g.C.length z4)
      have hput : putTs p.B (ownL p.g.N (-1)) 0 0 (p.T.getD p.g.C.length []) (List.replicate p.g.N.length z4, List.replicate p.g.C.length z4) = put0 (arP p) p.T := rfl
      have hlen := pTs_len p.B (ownL p.g.N (-1)) 0 0 (p.T.getD p.g.C.length []) (List.replicate p.g.N.length z4, List.replicate p.g.C.length z4)
      have hnr := near_put (n := 0) (m := (0 + 1 : Nat) * 2147483648) (B := p.B) (own := ownL p.g.N (-1)) (x := 0) (y := 0) (by omega) (by omega) (by omega) (p.T.getD p.g.C.length []) (List.replicate p.g.N.length z4, List.replicate p.g.C.length z4) (fun t ht => ((hTl _ (getD_memT (by omega))).1 t ht).1) (near_z _ (by omega))
      rw [hput] at hpc hlen hnr
      have hl1 : (put0 (arP p) p.T).1.length = p.g.N.length := hlen.1.trans List.length_replicate
      have hl2 : (put0 (arP p) p.T).2.length = p.g.C.length := hlen.2.trans List.length_replicate
      have hpP := prP0_mk p 0 (put0 (arP p) p.T).1 (put0 (arP p) p.T).2 (by omega) hgood hl1 hl2 hnr
      have hlP := lpP0_eq p 0 (put0 (arP p) p.T).1 (put0 (arP p) p.T).2
      have hFF : putF (arP p) p.T 0 ((put0 (arP p) p.T).1, (put0 (arP p) p.T).2) = put (arP p) p.T := rfl
      rw [hFF] at hlP
      have hr : placeR p.g p.o p.B = if (badL (put (arP p) p.T).1 || badL (put (arP p) p.T).2) = true then (([], []), 2) else (put (arP p) p.T, 0) := by rw [placeR, if_pos h, ha, ← ha']
      obtain ⟨c1, c2⟩ := cfBad (.inl rfl : 24 = 24 ∨ 24 = 27) (put (arP p) p.T).1
      obtain ⟨c3, c4⟩ := cfBad (.inl rfl : 24 = 24 ∨ 24 = 27) (put (arP p) p.T).2
      have e11 : p.d.ptd.getD 11 default = .l (p.T.map encTs) := rfl
      have epd : (Pn.mk p.g p.o p.B p.T p.S).d = p.d := rfl
      have hlP' : lpP0 [.i (p.g.C.length : Int), .i 0, .i p.o.md, .i p.o.ns, .i p.o.rs, .i p.o.m, .i p.o.rd, .l (p.B.map encQ), p.d, .l ((put0 (arP p) p.T).1.map encQ), .l ((put0 (arP p) p.T).2.map encQ)] = _ := hlP
      rw [hr]
      simp (disch := omega) only [takeD_zero, takeD_cons, List.cons_append, List.nil_append, List.getD_cons_zero, List.getD_cons_succ, D.int_i, D.bool_b, D.lst_l, ite_b, ite_or, List.length_map, Bool.false_eq_true, implies_true, true_and, ↓reduceIte, dle_t, dlt_t, beq_t, epd, e11, rep_Q, List.length_map, List.length_replicate, rowTsz, encTs, hpc, hl2, hlP', c2, c4, Bool.not_true]
      refine ⟨fun _ => rfl, fun _ => hpu, fun _ => hpP, fun _ => c1, fun _ => c3, ?_⟩
      cases badL (put (arP p) p.T).1
      · cases badL (put (arP p) p.T).2
        · rfl
        · rfl
      · rfl
  · have hb : (!(inE g o B == 0)) = true := by simp [h]
    have hr : placeR g o B = (([], []), inE g o B) := by rw [placeR, if_neg h]
    rw [if_neg h, hr]
    simp only [takeD_zero, takeD_cons, List.cons_append, List.nil_append, List.getD_cons_zero, List.getD_cons_succ, D.int_i, if_true, hb, if_true]
    rfl
end Go.Proofs.Ytindllmeeckfcaa.rv
namespace Go.Proofs.Ytindllmeeckfcaa.rv
set_option maxRecDepth 10000
open Go.RV
section
variable {C : List (List D)} (hok : okC C C.length)
include hok
theorem ar_at {k : Int} (h0 : 0 ≤ k) (hk : k < C.length) : around C k = k :: around C (cI (el C k.toNat) 1) := around_at h0 (hok.mono (by omega))
end
end Go.Proofs.Ytindllmeeckfcaa.rv
namespace Go.Proofs.Ytindllmeeckfcaa.rv
set_option maxRecDepth 10000
open Go.RV
theorem pick_has {p : Nat → Bool} {n w : Nat} (h : w < n) : (pickN p n).contains w = p w := by
  rw [Bool.eq_iff_iff, List.contains_iff_mem]
  unfold pickN
  rw [List.mem_filter, List.mem_range]
  exact ⟨fun h => h.2, fun h2 => ⟨h, h2⟩⟩
theorem hasN (l : List Nat) (w : Nat) : anyN (fun k => (w : Int) == cI (el (l.map encN) k) 0) l.length = l.contains w := by
  have e : ∀ k, k < l.length → cI (el (l.map encN) k) 0 = (l.getD k 0 : Nat) := fun k hk => by
    simp only [cI, el]
    rw [rowNn hk]; rfl
  rw [Bool.eq_iff_iff, anyN_iff, List.contains_iff_mem]
  constructor
  · rintro ⟨k, hk, h⟩
    rw [e k hk, beq_iff_eq] at h
    have : w = l.getD k 0 := by omega
    rw [this]
    exact getD_memN hk
  · intro h
    obtain ⟨k, hk, h2⟩ := List.getElem_of_mem h
    refine ⟨k, hk, ?_⟩
    rw [e k hk, beq_iff_eq]
    simp [List.getD, hk, h2]
theorem ciN_eq (l : List Nat) (w : Nat) : ciFn [.l (l.map encN), .i (w : Int)] = [.b (l.contains w)] := by
  rw [← hasN]
  show [D.b (anyN _ (l.map encN).length)] = _
  rw [List.length_map]
  rfl
def memL (g : Gd) (c : Nat) : List Nat := pickN (inN g.N g.C c) g.N.length
theorem memD_eq {g : Gd} (h : validE g = 0) {c : Nat} (hc : c < g.C.length) : memD [.s g.nm, .b g.dr, .l g.N, .l g.E, .l g.C, .i (c : Int)] = [.l ((memL g c).map encN)] := by
  have e : memR g (c : Int) = mems g.N g.C (c : Int) := if_pos ⟨h, by omega, by omega⟩
  show [D.l (memR g (c : Int))] = _
  rw [e]
  unfold mems memL
  rw [← one1_pick]
  rfl
theorem conD_eq (g : Gd) (c : Int) (k : Nat) : conD [.s g.nm, .b g.dr, .l g.N, .l g.E, .l g.C, .i c, .i (k : Int)] = [.b ((around g.C (cP g.C k)).contains c)] := by
  simp only [conD, cL, cI, List.getD_cons_succ, List.getD_cons_zero, D.lst_l, D.int_i, Int.toNat_natCast]
theorem m56 : Meets Try.prog 56 S56 (R 56) (F 56) := by
  refine meets_of_vt (pre := R) (Φ := F) mixed (sgAt_all (P := Try.prog) (pre := R) (Φ := F) (l := sg56) (List.forall_mem_cons.2 ⟨Meets.at (pre := R) (Φ := F) m58, List.forall_mem_cons.2 ⟨Meets.at (pre := R) (Φ := F) m57, (fun _ h => nomatch h)⟩⟩)) Try.func56 b56 n56 (loops_n 0 k56 fun k hk => by omega) e56 fun ds _ hq => ?_
  obtain ⟨q, c, K, m, rfl, hc, hm⟩ : okInP ds := hq
  have hn : IntKind.i64.wrap (-m) = -m := w64 (by omega)
  have hout : okInD [.i q.1, .i q.2.1, .i q.2.2.1, .i q.2.2.2, c, .p [.l (K.map encQ)], .p [.i m]] = [.b (okIn q K c.int m)] := by
    show [D.b (okIn q ((K.map encQ).map decQ) c.int m)] = _
    rw [map_decQ]
  have hif := fn58_eq (K.getD c.int.toNat z4) (-m)
  by_cases h0 : c.int < 0
  · have hd : decide (c.int < 0) = true := decide_eq_true h0
    simp (disch := omega) only [vt56, VT.ok, Nd.holds, X.outs, X.ds, X.d, Op1.ev, Op2.ev, List.cons_append, List.nil_append, List.getD_cons_zero, List.getD_cons_succ, D.int_i, D.bool_b, D.lst_l, List.length_map, Bool.false_eq_true, implies_true, and_true, false_implies, F58, R58, F57, R57, F56, ↓reduceIte, dle_f, dlt_t, w64', D.ptd_p, hout, okIn, hd, Bool.not_true, Bool.true_or]
  · have hd : decide (c.int < 0) = false := decide_eq_false h0
    simp (disch := omega) only [vt56, VT.ok, Nd.holds, X.outs, X.ds, X.d, Op1.ev, Op2.ev, takeD_zero, takeD_cons, List.cons_append, List.nil_append, List.getD_cons_zero, List.getD_cons_succ, D.int_i, D.bool_b, D.lst_l, List.length_map, Bool.false_eq_true, implies_true, and_true, F58, R58, F57, R57, F56, ↓reduceIte, dle_t, dlt_t, D.ptd_p, hout, okIn, hd, Bool.not_false, Bool.false_or, List.length_map, rowQz, encQ, hn, Int.zero_sub, hif, fn57_eq]
theorem loopM30_0 : LoopMeets Try.prog F (R L30_0.key) L30_0 lb30_0 := by
  refine loop_meets (pre := R) mixed (sgAt_all (P := Try.prog) (pre := R) (Φ := F) (l := sg30) (List.forall_mem_cons.2 ⟨Meets.at (pre := R) (Φ := F) m56, (fun _ h => nomatch h)⟩)) (loops_n 0 lk30_0 fun k hk => by omega) L30_0 (fun ρ => ((ρ.getD 3 default).int - (ρ.getD 4 default).int).toNat) le30_0 fun ρ _ hq => ?_
  obtain ⟨v, M, K, N, m, j, rfl, hj, h64, hM, hN, hm1, hm2⟩ : prI0 ρ := hq
  by_cases hlt : j < N.length
  · have hpre : okInP [.i (M.getD j z4).1, .i (M.getD j z4).2.1, .i (M.getD j z4).2.2.1, .i (M.getD j z4).2.2.2, (N.getD j []).getD 4 default, .p [.l (K.map encQ)], .p [.i m]] := ⟨_, _, K, m, rfl, (hN j hlt).2, hm1, hm2⟩
    have hout : okInD [.i (M.getD j z4).1, .i (M.getD j z4).2.1, .i (M.getD j z4).2.2.1, .i (M.getD j z4).2.2.2, (N.getD j []).getD 4 default, .p [.l (K.map encQ)], .p [.i m]] = [.b (okIn (M.getD j z4) K (nC N j) m)] := by
      show [D.b (okIn (M.getD j z4) ((K.map encQ).map decQ) (nC N j) m)] = _
      rw [map_decQ]
    simp (disch := omega) only [rt30_0, VT.ok, Nd.holds, X.outs, X.ds, X.d, Op1.ev, Op2.ev, takeD_zero, takeD_cons, List.cons_append, List.nil_append, List.getD_cons_zero, List.getD_cons_succ, D.int_i, D.bool_b, D.lst_l, Int.toNat_natCast, List.length_map, implies_true, true_and, F56, R56, ↓reduceIte, dle_t, dlt_t, w64', rowQz, encQ, hout]
    refine ⟨fun _ => hpre, ?_⟩
    show if outN N M K m j = true then _ else _
    cases hb : outN N M K m j
    · simp only [Bool.false_eq_true, if_false]
      refine round_next ⟨⟨v, M, K, N, m, j + 1, rfl, by omega, h64, hM, hN, hm1, hm2⟩, ?_, ?_⟩
      · show ((N.length : Int) - ((j + 1 : Nat) : Int)).toNat < ((N.length : Int) - (j : Int)).toNat
        omega
      · show lpI0 [.l (M.map encQ), v, .l N, .i (N.length : Int), .i ((j + 1 : Nat) : Int), .i m, .l (K.map encQ)] = lpI0 [.l (M.map encQ), v, .l N, .i (N.length : Int), .i (j : Int), .i m, .l (K.map encQ)]
        simp only [lpI0, map_decQ, scB, Int.toNat_natCast]
        exact scan_next hlt hb
    · simp only [if_true]
      refine round_exit (by omega) ?_
      show lpI0 [.l (M.map encQ), v, .l N, .i (N.length : Int), .i (j : Int), .i m, .l (K.map encQ)] = _
      simp only [lpI0, map_decQ, scB, Int.toNat_natCast]
      exact scan_hit hlt hb
  · have hj' : j = N.length := by omega
    subst hj'
    simp (disch := omega) only [rt30_0, VT.ok, X.ds, X.d, Op2.ev, List.getD_cons_zero, List.getD_cons_succ, D.int_i, D.bool_b, Bool.false_eq_true, ↓reduceIte, dlt_f]
    refine round_exit (by omega) ?_
    show lpI0 [.l (M.map encQ), v, .l N, .i (N.length : Int), .i (N.length : Int), .i m, .l (K.map encQ)] = _
    simp only [lpI0, map_decQ, scB, Int.toNat_natCast]
    exact scan_end
theorem loopM30_1 : LoopMeets Try.prog F (R L30_1.key) L30_1 lb30_1 := by
  refine loop_meets (pre := R) mixed (sgAt_all (P := Try.prog) (pre := R) (Φ := F) (l := sg30) (List.forall_mem_cons.2 ⟨Meets.at (pre := R) (Φ := F) m56, (fun _ h => nomatch h)⟩)) (loops_n 0 lk30_1 fun k hk => by omega) L30_1 (fun ρ => ((ρ.getD 2 default).int - (ρ.getD 3 default).int).toNat) le30_1 fun ρ _ hq => ?_
  obtain ⟨v, K, C, m, j, rfl, hj, h16, hK, hC, hm1, hm2⟩ : prI1 ρ := hq
  by_cases hlt : j < C.length
  · have hpre : okInP [.i (K.getD j z4).1, .i (K.getD j z4).2.1, .i (K.getD j z4).2.2.1, .i (K.getD j z4).2.2.2, (C.getD j []).getD 1 default, .p [.l (K.map encQ)], .p [.i m]] := ⟨_, _, K, m, rfl, by rw [hK]; exact (hC j hlt).2, hm1, hm2⟩
    have hout : okInD [.i (K.getD j z4).1, .i (K.getD j z4).2.1, .i (K.getD j z4).2.2.1, .i (K.getD j z4).2.2.2, (C.getD j []).getD 1 default, .p [.l (K.map encQ)], .p [.i m]] = [.b (okIn (K.getD j z4) K (cP C j) m)] := by
      show [D.b (okIn (K.getD j z4) ((K.map encQ).map decQ) (cP C j) m)] = _
      rw [map_decQ]
    simp (disch := omega) only [rt30_1, VT.ok, Nd.holds, X.outs, X.ds, X.d, Op1.ev, Op2.ev, takeD_zero, takeD_cons, List.cons_append, List.nil_append, List.getD_cons_zero, List.getD_cons_succ, D.int_i, D.bool_b, D.lst_l, Int.toNat_natCast, List.length_map, implies_true, true_and, F56, R56, ↓reduceIte, dle_t, dlt_t, w64', rowQz, encQ, hout]
    refine ⟨fun _ => hpre, ?_⟩
    show if outC C K m j = true then _ else _
    cases hb : outC C K m j
    · simp only [Bool.false_eq_true, if_false]
      refine round_next ⟨⟨v, K, C, m, j + 1, rfl, by omega, h16, hK, hC, hm1, hm2⟩, ?_, ?_⟩
      · show ((C.length : Int) - ((j + 1 : Nat) : Int)).toNat < ((C.length : Int) - (j : Int)).toNat
        omega
      · show lpI1 [v, .l C, .i (C.length : Int), .i ((j + 1 : Nat) : Int), .i m, .l (K.map encQ)] = lpI1 [v, .l C, .i (C.length : Int), .i (j : Int), .i m, .l (K.map encQ)]
        simp only [lpI1, map_decQ, scB, Int.toNat_natCast]
        exact scan_next hlt hb
    · simp only [if_true]
      refine round_exit (by omega) ?_
      show lpI1 [v, .l C, .i (C.length : Int), .i (j : Int), .i m, .l (K.map encQ)] = _
      simp only [lpI1, map_decQ, scB, Int.toNat_natCast]
      exact scan_hit hlt hb
  · have hj' : j = C.length := by omega
    subst hj'
    simp (disch := omega) only [rt30_1, VT.ok, X.ds, X.d, Op2.ev, List.getD_cons_zero, List.getD_cons_succ, D.int_i, D.bool_b, Bool.false_eq_true, ↓reduceIte, dlt_f]
    refine round_exit (by omega) ?_
    show lpI1 [v, .l C, .i (C.length : Int), .i (C.length : Int), .i m, .l (K.map encQ)] = _
    simp only [lpI1, map_decQ, scB, Int.toNat_natCast]
    exact scan_end
theorem withD_eq (g : Gd) (m : Int) (M K : List Bx) : withD [.s g.nm, .b g.dr, .l g.N, .l g.E, .l g.C, .i m, .l (M.map encQ), .l (K.map encQ)] = [.b (withinB g m M K)] := by
  show [D.b (withinB g m ((M.map encQ).map decQ) ((K.map encQ).map decQ))] = _
  rw [map_decQ, map_decQ]
theorem m30 : Meets Try.prog 30 S30 (R 30) (F 30) := by
  refine meets_of_vt (pre := R) (Φ := F) mixed (sgAt_all (P := Try.prog) (pre := R) (Φ := F) (l := sg30) (List.forall_mem_cons.2 ⟨Meets.at (pre := R) (Φ := F) m56, (fun _ h => nomatch h)⟩)) Try.func30 b30 n30 (loops_n 2 k30 fun k hk => match k, hk with | 0, _ => loop_this lf30_0 loopM30_0 | 1, _ => loop_this lf30_1 loopM30_1) e30 fun ds _ hq => ?_
  obtain ⟨g, m, M, K, rfl, h64, h16, hM, hK, hN, hC, hm1, hm2⟩ : withP ds := hq
  have e1 : lpI0 [.l (M.map encQ), .b false, .l g.N, .i (g.N.length : Int), .i 0, .i m, .l (K.map encQ)] = scanN (outN g.N M K m) (fun j => [.i 0, .b false, .i (j : Int)]) (fun j => [.i 1, .b false, .i (j : Int)]) g.N.length 0 := by
    simp only [lpI0, map_decQ, scB, Int.toNat_zero, Nat.sub_zero]
  have e2 : lpI1 [.b false, .l g.C, .i (g.C.length : Int), .i 0, .i m, .l (K.map encQ)] = scanN (outC g.C K m) (fun j => [.i 0, .b false, .i (j : Int)]) (fun j => [.i 1, .b false, .i (j : Int)]) g.C.length 0 := by
    simp only [lpI1, map_decQ, scB, Int.toNat_zero, Nat.sub_zero]
  have p1 : prI0 [.l (M.map encQ), .b false, .l g.N, .i (g.N.length : Int), .i 0, .i m, .l (K.map encQ)] := ⟨_, M, K, g.N, m, 0, rfl, by omega, h64, hM, hN, hm1, hm2⟩
  have p2 : prI1 [.b false, .l g.C, .i (g.C.length : Int), .i 0, .i m, .l (K.map encQ)] := ⟨_, K, g.C, m, 0, rfl, by omega, h16, hK, hC, hm1, hm2⟩
  simp only [vt30, VT.ok, Nd.holds, X.outs, X.ds, X.d, Op1.ev, Op2.ev, List.cons_append, List.nil_append, List.getD_cons_zero, List.getD_cons_succ, D.int_i, D.bool_b, D.lst_l, F13000, R13000, F13001, R13001, F30, e1, withD_eq]
  refine ⟨fun _ => p1, ?_⟩
  rcases scan_any (p := outN g.N M K m) (hit := fun j => [D.i 0, .b false, .i (j : Int)]) (miss := fun j => [D.i 1, .b false, .i (j : Int)]) g.N.length with ⟨k1, j, _, _, _, k2⟩ | ⟨k1, k2⟩
  · rw [k2, withinB, k1]; rfl
  · rw [k2]
    simp only [takeD_zero, takeD_cons, List.cons_append, List.nil_append, List.getD_cons_zero, List.getD_cons_succ, D.int_i, Bool.false_eq_true, if_false, show ((1 : Int) == 0) = false from rfl, e2]
    refine ⟨fun _ => p2, ?_⟩
    rcases scan_any (p := outC g.C K m) (hit := fun j => [D.i 0, .b false, .i (j : Int)]) (miss := fun j => [D.i 1, .b false, .i (j : Int)]) g.C.length with ⟨k3, j, _, _, _, k4⟩ | ⟨k3, k4⟩
    · rw [k4, withinB, k1, k3]; rfl
    · rw [k4, withinB, k1, k3]; rfl
theorem loopM62_0 : LoopMeets Try.prog F (R L62_0.key) L62_0 lb62_0 := by
  refine loop_meets (pre := R) mixed (sgAt_all (P := Try.prog) (pre := R) (Φ := F) (l := sg62) ((fun _ h => nomatch h))) (loops_n 0 lk62_0 fun k hk => by omega) L62_0 (fun ρ => ((ρ.getD 2 default).int + 1).toNat) le62_0 fun ρ _ hq => ?_
  obtain ⟨c, v, k, g, rfl, hat, hrow⟩ : prHas ρ := hq
  have hat0 := hat
  obtain ⟨h1, h2, h3, h4⟩ := hat
  by_cases h0 : 0 ≤ k
  · have hn : k.toNat < g.C.length := by omega
    have hr : (g.C.getD k.toNat []).getD 1 default = .i (cI (el g.C k.toNat) 1) := hrow _ hn
    have hb := h4 k.toNat (by omega)
    by_cases hc : k = c
    · subst hc
      simp (disch := omega) only [rt62_0, VT.ok, X.ds, X.d, Op2.ev, List.getD_cons_zero, List.getD_cons_succ, D.int_i, D.bool_b, ↓reduceIte, dle_t, beq_t]
      refine round_exit (by omega) ?_
      show lpHas [.i k, v, .i k, .s g.nm, .b g.dr, .l g.N, .l g.E, .l g.C] = _
      simp only [lpHas, around_at h0 h4]
      rw [if_pos (by simp)]
    · simp (disch := omega) only [rt62_0, VT.ok, Nd.holds, X.ds, X.d, Op1.ev, Op2.ev, List.getD_cons_zero, List.getD_cons_succ, D.int_i, D.bool_b, D.lst_l, Bool.false_eq_true, implies_true, true_and, ↓reduceIte, dle_t, dlt_t, beq_f, hr]
      refine round_next ⟨⟨c, v, cI (el g.C k.toNat) 1, g, rfl, atC_up hat0 h0, hrow⟩, ?_, ?_⟩
      · show (cI (el g.C k.toNat) 1 + 1).toNat < (k + 1).toNat
        omega
      · show lpHas [.i c, v, .i (cI (el g.C k.toNat) 1), .s g.nm, .b g.dr, .l g.N, .l g.E, .l g.C] = lpHas [.i c, v, .i k, .s g.nm, .b g.dr, .l g.N, .l g.E, .l g.C]
        simp only [lpHas, around_at h0 h4]
        rw [List.contains_cons, show (c == k) = false from beq_f (by omega), Bool.false_or]
  · simp (disch := omega) only [rt62_0, VT.ok, X.ds, X.d, Op2.ev, List.getD_cons_zero, List.getD_cons_succ, D.int_i, D.bool_b, Bool.false_eq_true, ↓reduceIte, dle_f]
    refine round_exit (by omega) ?_
    show lpHas [.i c, v, .i k, .s g.nm, .b g.dr, .l g.N, .l g.E, .l g.C] = _
    have : k = -1 := by omega
    subst this
    simp only [lpHas, around_neg (show (-1 : Int) < 0 by omega)]
    rfl
theorem m62 : Meets Try.prog 62 S62 (R 62) (F 62) := by
  refine meets_of_vt (pre := R) (Φ := F) mixed (sgAt_all (P := Try.prog) (pre := R) (Φ := F) (l := sg62) ((fun _ h => nomatch h))) Try.func62 b62 n62 (loops_n 1 k62 fun k hk => match k, hk with | 0, _ => loop_this lf62_0 loopM62_0) e62 fun ds hf hq => ?_
  obtain ⟨g', ds', e, h5, _, _, _, ⟨_, hC⟩⟩ := fitsG hf.flat
  obtain ⟨g, c, k, rfl, hk, hv⟩ : conP ds := hq
  simp only [List.cons.injEq, D.s.injEq, D.b.injEq, D.l.injEq] at e
  obtain ⟨_, _, _, _, e5, _⟩ := e
  rw [← e5] at hC
  obtain ⟨v1, v2, v3, v4⟩ := valid_okV hv
  have hr : (g.C.getD k []).getD 1 default = .i (cI (el g.C k) 1) := row_i hC rfl hk
  have hb := v3 k hk
  have hpre : prHas [.i c, .b false, .i (cI (el g.C k) 1), .s g.nm, .b g.dr, .l g.N, .l g.E, .l g.C] := ⟨c, _, _, g, rfl, ⟨by omega, by omega, v2, v3.mono (by omega)⟩, rowI1_of hC⟩
  simp (disch := omega) only [vt62, VT.ok, Nd.holds, X.outs, X.ds, X.d, Op1.ev, Op2.ev, List.cons_append, List.nil_append, List.getD_cons_zero, List.getD_cons_succ, D.int_i, D.bool_b, D.lst_l, Int.toNat_natCast, implies_true, true_and, F16200, R16200, F62, dle_t, dlt_t, hr, conD_eq]
  refine ⟨fun _ => hpre, ?_⟩
  show _
  cases h : (around g.C (cP g.C k)).contains c
  · have h' : (around g.C (cI (el g.C k) 1)).contains c = false := h
    simp only [lpHas, h', Bool.false_eq_true, if_false, takeD_zero, takeD_cons, List.getD_cons_zero, List.getD_cons_succ, D.int_i, Bool.false_eq_true, if_false]
    rw [if_neg (by decide)]; trivial
  · have h' : (around g.C (cI (el g.C k) 1)).contains c = true := h
    simp only [lpHas, h', if_true, takeD_zero, takeD_cons, List.getD_cons_zero, List.getD_cons_succ, D.int_i, if_true]
    rw [if_pos (by rfl)]; trivial
end Go.Proofs.Ytindllmeeckfcaa.rv
namespace Go.Proofs.Ytindllmeeckfcaa.rv
set_option maxRecDepth 10000
open Go.RV
theorem loopM31_0 : LoopMeets Try.prog F (R L31_0.key) L31_0 lb31_0 := by
  refine loop_meets (pre := R) mixed (sgAt_all (P := Try.prog) (pre := R) (Φ := F) (l := sg31) (List.forall_mem_cons.2 ⟨Meets.at (pre := R) (Φ := F) m25, List.forall_mem_cons.2 ⟨Meets.at (pre := R) (Φ := F) m60, List.forall_mem_cons.2 ⟨Meets.at (pre := R) (Φ := F) m61, List.forall_mem_cons.2 ⟨Meets.at (pre := R) (Φ := F) m18, List.forall_mem_cons.2 ⟨Meets.at (pre := R) (Φ := F) m62, (fun _ h => nomatch h)⟩⟩⟩⟩⟩)) (loops_n 0 lk31_0 fun k hk => by omega) L31_0 (fun ρ => ((ρ.getD 3 default).int - (ρ.getD 4 default).int).toNat) le31_0 fun ρ _ hq => ?_
  obtain ⟨v, M, j, rfl, hj, hm⟩ : prV3 ρ := hq
  rw [maxLen_val] at hm
  by_cases hlt : j < M.length
  · have hcf := cfOv (f := 59) (.inl rfl) (M.take j) (M.getD j z4)
    rw [ov_take (by omega)] at hcf
    simp (disch := omega) only [rt31_0, VT.ok, Nd.holds, X.outs, X.ds, X.d, Op1.ev, Op2.ev, takeD_zero, takeD_cons, List.cons_append, List.nil_append, List.getD_cons_zero, List.getD_cons_succ, D.int_i, D.bool_b, D.lst_l, Int.toNat_natCast, List.length_map, implies_true, true_and, F25, R25, ↓reduceIte, dle_t, dlt_t, w64', rowQz, encQ, Int.toNat_zero, List.drop_zero, takeQ, hcf.2]
    refine ⟨fun _ => hcf.1, ?_⟩
    show if ovN M j = true then _ else _
    cases hb : ovN M j
    · simp only [Bool.false_eq_true, if_false]
      refine round_next ⟨⟨v, M, j + 1, rfl, by omega, hm⟩, ?_, ?_⟩
      · show ((M.length : Int) - ((j + 1 : Nat) : Int)).toNat < ((M.length : Int) - (j : Int)).toNat
        omega
      · show lpV3 [.l (M.map encQ), v, .l (M.map encQ), .i (M.length : Int), .i ((j + 1 : Nat) : Int)] = lpV3 [.l (M.map encQ), v, .l (M.map encQ), .i (M.length : Int), .i (j : Int)]
        simp only [lpV3, map_decQ, List.length_map, scB, Int.toNat_natCast]
        exact scan_next hlt hb
    · simp only [if_true]
      refine round_exit (by omega) ?_
      show lpV3 [.l (M.map encQ), v, .l (M.map encQ), .i (M.length : Int), .i (j : Int)] = _
      simp only [lpV3, map_decQ, List.length_map, scB, Int.toNat_natCast]
      exact scan_hit hlt hb
  · have hj' : j = M.length := by omega
    subst hj'
    simp (disch := omega) only [rt31_0, VT.ok, X.ds, X.d, Op2.ev, List.getD_cons_zero, List.getD_cons_succ, D.int_i, D.bool_b, Bool.false_eq_true, ↓reduceIte, dlt_f]
    refine round_exit (by omega) ?_
    show lpV3 [.l (M.map encQ), v, .l (M.map encQ), .i (M.length : Int), .i (M.length : Int)] = _
    simp only [lpV3, map_decQ, List.length_map, scB, Int.toNat_natCast]
    exact scan_end
theorem loopM31_2 : LoopMeets Try.prog F (R L31_2.key) L31_2 lb31_2 := by
  refine loop_meets (pre := R) mixed (sgAt_all (P := Try.prog) (pre := R) (Φ := F) (l := sg31) (List.forall_mem_cons.2 ⟨Meets.at (pre := R) (Φ := F) m25, List.forall_mem_cons.2 ⟨Meets.at (pre := R) (Φ := F) m60, List.forall_mem_cons.2 ⟨Meets.at (pre := R) (Φ := F) m61, List.forall_mem_cons.2 ⟨Meets.at (pre := R) (Φ := F) m18, List.forall_mem_cons.2 ⟨Meets.at (pre := R) (Φ := F) m62, (fun _ h => nomatch h)⟩⟩⟩⟩⟩)) (loops_n 0 lk31_2 fun k hk => by omega) L31_2 (fun ρ => ((ρ.getD 3 default).int - (ρ.getD 4 default).int).toNat) le31_2 fun ρ _ hq => ?_
  obtain ⟨v, l, M, q, j, rfl, hj, hm⟩ : prMn ρ := hq
  by_cases hlt : j < M.length
  · simp (disch := omega) only [rt31_2, VT.ok, Nd.holds, X.outs, X.ds, X.d, Op1.ev, Op2.ev, takeD_zero, takeD_cons, List.cons_append, List.nil_append, List.getD_cons_zero, List.getD_cons_succ, D.int_i, D.bool_b, D.lst_l, ite_b, ite_and, Int.toNat_natCast, List.length_map, implies_true, true_and, F61, R61, F18, R18, ↓reduceIte, dle_t, dlt_t, w64', rowQz, encQ, ciN_eq, fn18_eq]
    show if (!l.contains j && ovQ (M.getD j z4) q) = true then _ else _
    cases hb : (!l.contains j && ovQ (M.getD j z4) q)
    · simp only [Bool.false_eq_true, if_false]
      refine round_next ⟨⟨v, l, M, q, j + 1, rfl, by omega, hm⟩, ?_, ?_⟩
      · show ((M.length : Int) - ((j + 1 : Nat) : Int)).toNat < ((M.length : Int) - (j : Int)).toNat
        omega
      · show lpMn [v, .l (l.map encN), .l (M.map encQ), .i (M.length : Int), .i ((j + 1 : Nat) : Int), .i q.1, .i q.2.1, .i q.2.2.1, .i q.2.2.2] = lpMn [v, .l (l.map encN), .l (M.map encQ), .i (M.length : Int), .i (j : Int), .i q.1, .i q.2.1, .i q.2.2.1, .i q.2.2.2]
        simp only [lpMn, map_decQ, map_decN, List.length_map, scB, Int.toNat_natCast]
        exact scan_next hlt hb
    · simp only [if_true]
      refine round_exit (by omega) ?_
      show lpMn [v, .l (l.map encN), .l (M.map encQ), .i (M.length : Int), .i (j : Int), .i q.1, .i q.2.1, .i q.2.2.1, .i q.2.2.2] = _
      simp only [lpMn, map_decQ, map_decN, List.length_map, scB, Int.toNat_natCast]
      exact scan_hit hlt hb
  · have hj' : j = M.length := by omega
    subst hj'
    simp (disch := omega) only [rt31_2, VT.ok, X.ds, X.d, Op2.ev, List.getD_cons_zero, List.getD_cons_succ, D.int_i, D.bool_b, Bool.false_eq_true, ↓reduceIte, dlt_f]
    refine round_exit (by omega) ?_
    show lpMn [v, .l (l.map encN), .l (M.map encQ), .i (M.length : Int), .i (M.length : Int), .i q.1, .i q.2.1, .i q.2.2.1, .i q.2.2.2] = _
    simp only [lpMn, map_decQ, map_decN, List.length_map, scB, Int.toNat_natCast]
    exact scan_end
theorem loopM31_3 : LoopMeets Try.prog F (R L31_3.key) L31_3 lb31_3 := by
  refine loop_meets (pre := R) mixed (sgAt_all (P := Try.prog) (pre := R) (Φ := F) (l := sg31) (List.forall_mem_cons.2 ⟨Meets.at (pre := R) (Φ := F) m25, List.forall_mem_cons.2 ⟨Meets.at (pre := R) (Φ := F) m60, List.forall_mem_cons.2 ⟨Meets.at (pre := R) (Φ := F) m61, List.forall_mem_cons.2 ⟨Meets.at (pre := R) (Φ := F) m18, List.forall_mem_cons.2 ⟨Meets.at (pre := R) (Φ := F) m62, (fun _ h => nomatch h)⟩⟩⟩⟩⟩)) (loops_n 0 lk31_3 fun k hk => by omega) L31_3 (fun ρ => ((ρ.getD 3 default).int - (ρ.getD 4 default).int).toNat) le31_3 fun ρ _ hq => ?_
  obtain ⟨v, c, K, q, g, j, rfl, hj, hK, hc, hv⟩ : prMc ρ := hq
  obtain ⟨_, v16⟩ := valid_len hv
  by_cases hlt : j < K.length
  · have h1 : conP [.s g.nm, .b g.dr, .l g.N, .l g.E, .l g.C, .i (j : Int), .i (c : Int)] := ⟨g, _, c, rfl, hc, hv⟩
    have h2 : conP [.s g.nm, .b g.dr, .l g.N, .l g.E, .l g.C, .i (c : Int), .i (j : Int)] := ⟨g, _, j, rfl, by omega, hv⟩
    simp (disch := omega) only [rt31_3, VT.ok, Nd.holds, X.outs, X.ds, X.d, Op1.ev, Op2.ev, takeD_zero, takeD_cons, List.cons_append, List.nil_append, List.getD_cons_zero, List.getD_cons_succ, D.int_i, D.bool_b, D.lst_l, ite_b, ite_and, Int.toNat_natCast, List.length_map, implies_true, true_and, F18, R18, F62, R62, ↓reduceIte, dle_t, dlt_t, w64', rowQz, encQ, conD_eq, fn18_eq]
    refine ⟨fun _ => h1, fun _ => h2, ?_⟩
    show if ((!(around g.C (cP g.C c)).contains (j : Int) && !(around g.C (cP g.C j)).contains (c : Int)) && ovQ (K.getD j z4) q) = true then _ else _
    cases hb : ((!(around g.C (cP g.C c)).contains (j : Int) && !(around g.C (cP g.C j)).contains (c : Int)) && ovQ (K.getD j z4) q)
    · simp only [Bool.false_eq_true, if_false]
      refine round_next ⟨⟨v, c, K, q, g, j + 1, rfl, by omega, hK, hc, hv⟩, ?_, ?_⟩
      · show ((K.length : Int) - ((j + 1 : Nat) : Int)).toNat < ((K.length : Int) - (j : Int)).toNat
        omega
      · show lpMc [v, .i (c : Int), .l (K.map encQ), .i (K.length : Int), .i ((j + 1 : Nat) : Int), .s g.nm, .b g.dr, .l g.N, .l g.E, .l g.C, .i q.1, .i q.2.1, .i q.2.2.1, .i q.2.2.2] = lpMc [v, .i (c : Int), .l (K.map encQ), .i (K.length : Int), .i (j : Int), .s g.nm, .b g.dr, .l g.N, .l g.E, .l g.C, .i q.1, .i q.2.1, .i q.2.2.1, .i q.2.2.2]
        simp only [lpMc, map_decQ, List.length_map, scB, Int.toNat_natCast]
        exact scan_next hlt hb
    · simp only [if_true]
      refine round_exit (by omega) ?_
      show lpMc [v, .i (c : Int), .l (K.map encQ), .i (K.length : Int), .i (j : Int), .s g.nm, .b g.dr, .l g.N, .l g.E, .l g.C, .i q.1, .i q.2.1, .i q.2.2.1, .i q.2.2.2] = _
      simp only [lpMc, map_decQ, List.length_map, scB, Int.toNat_natCast]
      exact scan_hit hlt hb
  · have hj' : j = K.length := by omega
    subst hj'
    simp (disch := omega) only [rt31_3, VT.ok, X.ds, X.d, Op2.ev, List.getD_cons_zero, List.getD_cons_succ, D.int_i, D.bool_b, Bool.false_eq_true, ↓reduceIte, dlt_f]
    refine round_exit (by omega) ?_
    show lpMc [v, .i (c : Int), .l (K.map encQ), .i (K.length : Int), .i (K.length : Int), .s g.nm, .b g.dr, .l g.N, .l g.E, .l g.C, .i q.1, .i q.2.1, .i q.2.2.1, .i q.2.2.2] = _
    simp only [lpMc, map_decQ, List.length_map, scB, Int.toNat_natCast]
    exact scan_end
theorem lies_lt {C : List (List D)} {c d : Nat} (hok : okC C C.length) (hc : c < C.length) (hd : d < c) : lies C c d = (around C (cP C c)).contains (d : Int) := by
  unfold lies
  rw [ar_at hok (by omega) (by omega), List.contains_cons, show ((d : Int) == (c : Int)) = false from beq_f (by omega), Bool.false_or, Int.toNat_natCast]
theorem lies_gt {C : List (List D)} {c d : Nat} (hok : okC C C.length) (hc : c < C.length) (hd : d < c) : lies C d c = (around C (cP C d)).contains (c : Int) := by
  unfold lies
  rw [ar_at hok (by omega) (by omega), List.contains_cons, show ((c : Int) == (d : Int)) = false from beq_f (by omega), Bool.false_or, Int.toNat_natCast]
theorem getD_takeQ {l : List Bx} {i j : Nat} (h : i < j) : (l.take j).getD i z4 = l.getD i z4 := by
  simp only [List.getD]
  rw [List.getElem?_take, if_pos h]
theorem mixC_take {g : Gd} (hv : validE g = 0) {K : List Bx} {j : Nat} (hK : K.length = g.C.length) (hj : j < K.length) :
    anyN (fun k => (!(around g.C (cP g.C j)).contains (k : Int) && !(around g.C (cP g.C k)).contains (j : Int)) && ovQ ((K.take j).getD k z4) (K.getD j z4)) (K.take j).length = anyN (mixC g.C K j) j := by
  rw [List.length_take, Nat.min_eq_left (by omega)]
  obtain ⟨_, _, v3, _⟩ := valid_okV hv
  refine anyN_congr fun k hk => ?_
  simp only [mixC]
  rw [lies_lt v3 (by omega) hk, lies_gt v3 (by omega) hk, getD_takeQ hk]
theorem mixN_mem {g : Gd} {M K : List Bx} {j : Nat} (hM : M.length = g.N.length) : anyN (fun w => !(memL g j).contains w && ovQ (M.getD w z4) (K.getD j z4)) M.length = anyN (mixN g.N g.C M K j) M.length := by
  refine anyN_congr fun k hk => ?_
  simp only [mixN, memL]
  rw [pick_has (by omega)]
theorem lpMn_eq (v : D) (l : List Nat) (M : List Bx) (q : Bx) : lpMn [v, .l (l.map encN), .l (M.map encQ), .i (M.length : Int), .i 0, .i q.1, .i q.2.1, .i q.2.2.1, .i q.2.2.2] = scanN (fun w => !l.contains w && ovQ (M.getD w z4) q) (fun j => [.i 0, .b false, .i (j : Int)]) (fun j => [.i 1, v, .i (j : Int)]) M.length 0 := by
  simp only [lpMn, map_decQ, map_decN, List.length_map, scB, Int.toNat_zero, Nat.sub_zero]
theorem lpMc_eq (v : D) (c : Nat) (K : List Bx) (q : Bx) (g : Gd) (n : Int) : lpMc [v, .i (c : Int), .l (K.map encQ), .i n, .i 0, .s g.nm, .b g.dr, .l g.N, .l g.E, .l g.C, .i q.1, .i q.2.1, .i q.2.2.1, .i q.2.2.2] = scanN (fun k => (!(around g.C (cP g.C c)).contains (k : Int) && !(around g.C (cP g.C k)).contains (c : Int)) && ovQ (K.getD k z4) q) (fun j => [.i 0, .b false, .i (j : Int)]) (fun j => [.i 1, v, .i (j : Int)]) K.length 0 := by
  simp only [lpMc, map_decQ, List.length_map, scB, Int.toNat_zero, Nat.sub_zero, Int.toNat_natCast]
theorem lpMx_eq (v : D) (M K : List Bx) (g : Gd) (j : Nat) : lpMx [.l (M.map encQ), .l (K.map encQ), v, .l (K.map encQ), .i (K.length : Int), .i (j : Int), .s g.nm, .b g.dr, .l g.N, .l g.E, .l g.C] = scanN (mixAny g.N g.C M K) (fun j => [.i 0, .b false, .i (j : Int)]) (fun j => [.i 1, v, .i (j : Int)]) (K.length - j) j := by
  simp only [lpMx, map_decQ, List.length_map, scB, Int.toNat_natCast]
theorem loopM31_1 : LoopMeets Try.prog F (R L31_1.key) L31_1 lb31_1 := by
  refine loop_meets (pre := R) mixed (sgAt_all (P := Try.prog) (pre := R) (Φ := F) (l := sg31) (List.forall_mem_cons.2 ⟨Meets.at (pre := R) (Φ := F) m25, List.forall_mem_cons.2 ⟨Meets.at (pre := R) (Φ := F) m60, List.forall_mem_cons.2 ⟨Meets.at (pre := R) (Φ := F) m61, List.forall_mem_cons.2 ⟨Meets.at (pre := R) (Φ := F) m18, List.forall_mem_cons.2 ⟨Meets.at (pre := R) (Φ := F) m62, (fun _ h => nomatch h)⟩⟩⟩⟩⟩)) (loops_n 2 lk31_1 fun k hk => match k, hk with | 0, _ => by rw [li31_1_0]; exact loop_this lf31_2 loopM31_2 | 1, _ => by rw [li31_1_1]; exact loop_this lf31_3 loopM31_3) L31_1 (fun ρ => ((ρ.getD 4 default).int - (ρ.getD 5 default).int).toNat) le31_1 fun ρ _ hq => ?_
  obtain ⟨v, M, K, g, j, rfl, hj, hv, hM, hK⟩ : prMx ρ := hq
  obtain ⟨v1, v2⟩ := valid_len hv
  by_cases hlt : j < K.length
  · have hhit : mixAny g.N g.C M K j = true → RoundOk F (R L31_1.key) (fun ρ => ((ρ.getD 4 default).int - (ρ.getD 5 default).int).toNat) L31_1 [.l (M.map encQ), .l (K.map encQ), v, .l (K.map encQ), .i (K.length : Int), .i (j : Int), .s g.nm, .b g.dr, .l g.N, .l g.E, .l g.C] [.i 0, .b false, .i (j : Int)] := fun h => by
      refine round_exit (by omega) ?_
      rw [show F L31_1.key = lpMx from rfl, lpMx_eq]
      exact scan_hit hlt h
    have hmiss : mixAny g.N g.C M K j = false → RoundOk F (R L31_1.key) (fun ρ => ((ρ.getD 4 default).int - (ρ.getD 5 default).int).toNat) L31_1 [.l (M.map encQ), .l (K.map encQ), v, .l (K.map encQ), .i (K.length : Int), .i (j : Int), .s g.nm, .b g.dr, .l g.N, .l g.E, .l g.C] [.i (-1), v, .i ((j + 1 : Nat) : Int)] := fun h => by
      refine round_next ⟨⟨v, M, K, g, j + 1, rfl, by omega, hv, hM, hK⟩, ?_, ?_⟩
      · show ((K.length : Int) - ((j + 1 : Nat) : Int)).toNat < ((K.length : Int) - (j : Int)).toNat
        omega
      · show lpMx [.l (M.map encQ), .l (K.map encQ), v, .l (K.map encQ), .i (K.length : Int), .i ((j + 1 : Nat) : Int), .s g.nm, .b g.dr, .l g.N, .l g.E, .l g.C] = lpMx [.l (M.map encQ), .l (K.map encQ), v, .l (K.map encQ), .i (K.length : Int), .i (j : Int), .s g.nm, .b g.dr, .l g.N, .l g.E, .l g.C]
        rw [lpMx_eq, lpMx_eq]
        exact scan_next hlt h
    have hmem := memD_eq (g := g) hv (c := j) (by omega)
    have hp1 : ∀ v : D, prMn [v, .l ((memL g j).map encN), .l (M.map encQ), .i (M.length : Int), .i 0, .i (K.getD j z4).1, .i (K.getD j z4).2.1, .i (K.getD j z4).2.2.1, .i (K.getD j z4).2.2.2] := fun v => ⟨v, memL g j, M, K.getD j z4, 0, rfl, by omega, by omega⟩
    have hlen : (K.take j).length = j := by rw [List.length_take]; omega
    have hp2 : ∀ v : D, prMc [v, .i (j : Int), .l ((K.take j).map encQ), .i ((K.take j).length : Int), .i 0, .s g.nm, .b g.dr, .l g.N, .l g.E, .l g.C, .i (K.getD j z4).1, .i (K.getD j z4).2.1, .i (K.getD j z4).2.2.1, .i (K.getD j z4).2.2.2] := fun v => ⟨v, j, K.take j, K.getD j z4, g, 0, rfl, by omega, hlen, by omega, hv⟩
    simp (disch := omega) only [rt31_1, VT.ok, Nd.holds, X.outs, X.ds, X.d, Op1.ev, Op2.ev, takeD_zero, takeD_cons, List.cons_append, List.nil_append, List.getD_cons_zero, List.getD_cons_succ, D.int_i, D.bool_b, D.lst_l, Int.toNat_natCast, List.length_map, implies_true, true_and, F60, R60, F13101, R13101, F13102, R13102, ↓reduceIte, dle_t, dlt_t, w64', rowQz, encQ, hmem, lpMn_eq, Int.toNat_zero, List.drop_zero, takeQ]
    refine ⟨fun _ => hp1 _, ?_⟩
    rcases scan_any (p := fun w => !(memL g j).contains w && ovQ (M.getD w z4) (K.getD j z4)) (hit := fun j => [D.i 0, .b false, .i (j : Int)]) (miss := fun j => [D.i 1, v, .i (j : Int)]) M.length with ⟨h1, k, _, _, _, h2⟩ | ⟨h1, h2⟩
    · rw [mixN_mem hM] at h1
      rw [h2]
      simp only [takeD_zero, takeD_cons, List.cons_append, List.nil_append, List.getD_cons_zero, List.getD_cons_succ, D.int_i, if_true, show ((0 : Int) == 0) = true from rfl]
      exact hhit (by rw [mixAny, h1]; rfl)
    · rw [mixN_mem hM] at h1
      rw [h2]
      simp only [takeD_zero, takeD_cons, List.cons_append, List.nil_append, List.getD_cons_zero, List.getD_cons_succ, D.int_i, Bool.false_eq_true, if_false, show ((1 : Int) == 0) = false from rfl, lpMc_eq]
      refine ⟨fun _ => hp2 _, ?_⟩
      rcases scan_any (p := fun k => (!(around g.C (cP g.C j)).contains (k : Int) && !(around g.C (cP g.C k)).contains (j : Int)) && ovQ ((K.take j).getD k z4) (K.getD j z4)) (hit := fun j => [D.i 0, .b false, .i (j : Int)]) (miss := fun j => [D.i 1, v, .i (j : Int)]) (K.take j).length with ⟨h3, k, _, _, _, h4⟩ | ⟨h3, h4⟩
      · rw [mixC_take hv hK hlt] at h3
        rw [h4]
        simp only [takeD_zero, takeD_cons, List.getD_cons_zero, List.getD_cons_succ, D.int_i, if_true, show ((0 : Int) == 0) = true from rfl]
        exact hhit (by rw [mixAny, h3, Bool.or_true])
      · rw [mixC_take hv hK hlt] at h3
        rw [h4]
        simp only [takeD_zero, takeD_cons, List.getD_cons_zero, List.getD_cons_succ, D.int_i, Bool.false_eq_true, if_false, show ((1 : Int) == 0) = false from rfl]
        exact hmiss (by rw [mixAny, h1, h3]; rfl)
  · have hj : j = K.length := by omega
    subst hj
    simp (disch := omega) only [rt31_1, VT.ok, X.ds, X.d, Op2.ev, List.getD_cons_zero, List.getD_cons_succ, D.int_i, D.bool_b, Bool.false_eq_true, ↓reduceIte, dlt_f]
    refine round_exit (by omega) ?_
    rw [show F L31_1.key = lpMx from rfl, lpMx_eq]
    exact scan_end
theorem apD_eq (g : Gd) (M K : List Bx) : apD [.s g.nm, .b g.dr, .l g.N, .l g.E, .l g.C, .l (M.map encQ), .l (K.map encQ)] = [.b (!overB g M K)] := by
  show [D.b (!overB g ((M.map encQ).map decQ) ((K.map encQ).map decQ))] = _
  rw [map_decQ, map_decQ]
theorem m31 : Meets Try.prog 31 S31 (R 31) (F 31) := by
  refine meets_of_vt (pre := R) (Φ := F) mixed (sgAt_all (P := Try.prog) (pre := R) (Φ := F) (l := sg31) (List.forall_mem_cons.2 ⟨Meets.at (pre := R) (Φ := F) m25, List.forall_mem_cons.2 ⟨Meets.at (pre := R) (Φ := F) m60, List.forall_mem_cons.2 ⟨Meets.at (pre := R) (Φ := F) m61, List.forall_mem_cons.2 ⟨Meets.at (pre := R) (Φ := F) m18, List.forall_mem_cons.2 ⟨Meets.at (pre := R) (Φ := F) m62, (fun _ h => nomatch h)⟩⟩⟩⟩⟩)) Try.func31 b31 n31 (loops_n 4 k31 fun k hk => match k, hk with | 0, _ => loop_this lf31_0 loopM31_0 | 1, _ => loop_this lf31_1 loopM31_1 | 2, _ => loop_this lf31_2 loopM31_2 | 3, _ => loop_this lf31_3 loopM31_3) e31 fun ds _ hq => ?_
  obtain ⟨g, M, K, rfl, hv, hM, hK⟩ : apP ds := hq
  obtain ⟨v1, v2⟩ := valid_len hv
  have e1 : lpV3 [.l (M.map encQ), .b false, .l (M.map encQ), .i (M.length : Int), .i 0] = scanN (ovN M) (fun j => [.i 0, .b false, .i (j : Int)]) (fun j => [.i 1, .b false, .i (j : Int)]) M.length 0 := by
    simp only [lpV3, map_decQ, List.length_map, scB, Int.toNat_zero, Nat.sub_zero]
  have e2 := lpMx_eq (.b false) M K g 0
  have p1 : prV3 [.l (M.map encQ), .b false, .l (M.map encQ), .i (M.length : Int), .i 0] := ⟨_, M, 0, rfl, by omega, by rw [maxLen_val]; omega⟩
  have p2 : prMx [.l (M.map encQ), .l (K.map encQ), .b false, .l (K.map encQ), .i (K.length : Int), .i 0, .s g.nm, .b g.dr, .l g.N, .l g.E, .l g.C] := ⟨_, M, K, g, 0, rfl, by omega, hv, hM, hK⟩
  simp only [Int.natCast_zero, Nat.sub_zero] at e2
  simp only [vt31, VT.ok, Nd.holds, X.outs, X.ds, X.d, Op1.ev, Op2.ev, List.cons_append, List.nil_append, List.getD_cons_zero, List.getD_cons_succ, D.int_i, D.bool_b, D.lst_l, List.length_map, F13100, R13100, F13103, R13103, F31, e1, apD_eq]
  refine ⟨fun _ => p1, ?_⟩
  rcases scan_any (p := ovN M) (hit := fun j => [D.i 0, .b false, .i (j : Int)]) (miss := fun j => [D.i 1, .b false, .i (j : Int)]) M.length with ⟨k1, j, _, _, _, k2⟩ | ⟨k1, k2⟩
  · rw [k2, overB, k1]; rfl
  · rw [k2]
    simp only [takeD_zero, takeD_cons, List.cons_append, List.nil_append, List.getD_cons_zero, List.getD_cons_succ, D.int_i, Bool.false_eq_true, if_false, show ((1 : Int) == 0) = false from rfl, e2]
    refine ⟨fun _ => p2, ?_⟩
    rcases scan_any (p := mixAny g.N g.C M K) (hit := fun j => [D.i 0, .b false, .i (j : Int)]) (miss := fun j => [D.i 1, .b false, .i (j : Int)]) K.length with ⟨k3, j, _, _, _, k4⟩ | ⟨k3, k4⟩
    · rw [k4, overB, k1, k3]; rfl
    · rw [k4, overB, k1, k3]; rfl
theorem badL_ok {B : List Bx} (h : badL B = false) : ∀ b ∈ B, bxQ b = true := fun b hb => by
  obtain ⟨i, hi, rfl⟩ := List.getElem_of_mem hb
  have := anyN_false.1 h i hi
  simpa [List.getD, hi] using this
theorem loopM11_0 : LoopMeets Try.prog F (R L11_0.key) L11_0 lb11_0 := by
  refine loop_meets (pre := R) mixed (sgAt_all (P := Try.prog) (pre := R) (Φ := F) (l := sg11) (List.forall_mem_cons.2 ⟨Meets.at (pre := R) (Φ := F) m26, List.forall_mem_cons.2 ⟨Meets.at (pre := R) (Φ := F) m28, List.forall_mem_cons.2 ⟨Meets.at (pre := R) (Φ := F) m25, List.forall_mem_cons.2 ⟨Meets.at (pre := R) (Φ := F) m29, List.forall_mem_cons.2 ⟨Meets.at (pre := R) (Φ := F) m30, List.forall_mem_cons.2 ⟨Meets.at (pre := R) (Φ := F) m31, (fun _ h => nomatch h)⟩⟩⟩⟩⟩⟩)) (loops_n 0 lk11_0 fun k hk => by omega) L11_0 (fun ρ => ((ρ.getD 2 default).int - (ρ.getD 3 default).int).toNat) le11_0 fun ρ _ hq => ?_
  obtain ⟨v, M, g, j, rfl, hj, hN, h64, hs⟩ : prSs ρ := hq
  by_cases hlt : j < M.length
  · have he := fnE_eq (M.getD j z4) (hs _ (getD_mem z4 hlt))
    simp (disch := omega) only [rt11_0, VT.ok, Nd.holds, X.outs, X.ds, X.d, Op1.ev, Op2.ev, takeD_zero, takeD_cons, List.cons_append, List.nil_append, List.getD_cons_zero, List.getD_cons_succ, D.int_i, D.bool_b, D.lst_l, ite_b, ite_and, Int.toNat_natCast, List.length_map, implies_true, true_and, F29, R29, ↓reduceIte, dle_t, dlt_t, w64', rowQz, encQ, he, Bool.not_and]
    show if badS g.N M j = true then _ else _
    cases hb : badS g.N M j
    · simp only [Bool.false_eq_true, if_false]
      refine round_next ⟨⟨v, M, g, j + 1, rfl, by omega, hN, h64, hs⟩, ?_, ?_⟩
      · show ((M.length : Int) - ((j + 1 : Nat) : Int)).toNat < ((M.length : Int) - (j : Int)).toNat
        omega
      · show lpSs [v, .l (M.map encQ), .i (M.length : Int), .i ((j + 1 : Nat) : Int), .s g.nm, .b g.dr, .l g.N, .l g.E, .l g.C] = lpSs [v, .l (M.map encQ), .i (M.length : Int), .i (j : Int), .s g.nm, .b g.dr, .l g.N, .l g.E, .l g.C]
        simp only [lpSs, map_decQ, List.length_map, scB, Int.toNat_natCast]
        exact scan_next hlt hb
    · simp only [if_true]
      refine round_exit (by omega) ?_
      show lpSs [v, .l (M.map encQ), .i (M.length : Int), .i (j : Int), .s g.nm, .b g.dr, .l g.N, .l g.E, .l g.C] = _
      simp only [lpSs, map_decQ, List.length_map, scB, Int.toNat_natCast]
      exact scan_hit hlt hb
  · have hj' : j = M.length := by omega
    subst hj'
    simp (disch := omega) only [rt11_0, VT.ok, X.ds, X.d, Op2.ev, List.getD_cons_zero, List.getD_cons_succ, D.int_i, D.bool_b, Bool.false_eq_true, ↓reduceIte, dlt_f]
    refine round_exit (by omega) ?_
    show lpSs [v, .l (M.map encQ), .i (M.length : Int), .i (M.length : Int), .s g.nm, .b g.dr, .l g.N, .l g.E, .l g.C] = _
    simp only [lpSs, map_decQ, List.length_map, scB, Int.toNat_natCast]
    exact scan_end
theorem chD_eq (g : Gd) (o : Od) (M K : List Bx) : chD [.s g.nm, .b g.dr, .l g.N, .l g.E, .l g.C, .i o.md, .i o.ns, .i o.rs, .i o.m, .i o.rd, .l (M.map encQ), .l (K.map encQ)] = [.i (chkE g o M K)] := by
  show [D.i (chkE g o ((M.map encQ).map decQ) ((K.map encQ).map decQ))] = _
  rw [map_decQ, map_decQ]
theorem lpSs_eq (M : List Bx) (g : Gd) : lpSs [.i 0, .l (M.map encQ), .i (M.length : Int), .i 0, .s g.nm, .b g.dr, .l g.N, .l g.E, .l g.C] = scanN (badS g.N M) (fun j => [.i 0, .i 13, .i (j : Int)]) (fun j => [.i 1, .i 0, .i (j : Int)]) M.length 0 := by
  simp only [lpSs, map_decQ, List.length_map, scB, Int.toNat_zero, Nat.sub_zero]
theorem chkE_err {g : Gd} {o : Od} {M K : List Bx} (h : ¬ validE g = 0) : chkE g o M K = validE g := by rw [chkE, if_neg h]
theorem lenB {a b : Nat} : (((a : Int) == (b : Int))) = (a == b) := by
  rw [Bool.eq_iff_iff]; simp only [beq_iff_eq]; omega
theorem chkE_len {g : Gd} {o : Od} {M K : List Bx} (h1 : validE g = 0) (h2 : o.ok = true) (h : ((!(M.length == g.N.length) || !(K.length == g.C.length)) || (badL M || badL K)) = true) : chkE g o M K = 1 := by
  rw [chkE, if_pos h1, if_pos h2, if_pos h]
theorem m11 : Meets Try.prog 11 S11 (R 11) (F 11) := by
  refine meets_of_vt (pre := R) (Φ := F) mixed (sgAt_all (P := Try.prog) (pre := R) (Φ := F) (l := sg11) (List.forall_mem_cons.2 ⟨Meets.at (pre := R) (Φ := F) m26, List.forall_mem_cons.2 ⟨Meets.at (pre := R) (Φ := F) m28, List.forall_mem_cons.2 ⟨Meets.at (pre := R) (Φ := F) m25, List.forall_mem_cons.2 ⟨Meets.at (pre := R) (Φ := F) m29, List.forall_mem_cons.2 ⟨Meets.at (pre := R) (Φ := F) m30, List.forall_mem_cons.2 ⟨Meets.at (pre := R) (Φ := F) m31, (fun _ h => nomatch h)⟩⟩⟩⟩⟩⟩)) Try.func11 b11 n11 (loops_n 1 k11 fun k hk => match k, hk with | 0, _ => loop_this lf11_0 loopM11_0) e11 fun ds hf _ => ?_
  obtain ⟨g, o, M, ds', rfl, h0, hm, _⟩ := fitsGO hf.flat
  obtain ⟨x, rfl, hx⟩ := fits1 h0
  obtain ⟨K, rfl, hk, _⟩ := slQ hx
  have hv : validD [.s g.nm, .b g.dr, .l g.N, .l g.E, .l g.C] = [.i (validE g)] := rfl
  have ho := fn28_eq o.md o.ns o.rs o.m o.rd
  obtain ⟨cM1, cM2⟩ := cfBad (f := 27) (.inr rfl) M
  obtain ⟨cK1, cK2⟩ := cfBad (f := 27) (.inr rfl) K
  simp only [vt11, VT.ok, Nd.holds, X.outs, X.ds, X.d, Op1.ev, Op2.ev, takeD_zero, takeD_cons, List.cons_append, List.nil_append, List.getD_cons_zero, List.getD_cons_succ, D.int_i, D.bool_b, D.lst_l, List.length_map, implies_true, true_and, F26, R26, F28, R28, F25, R25, F11100, R11100, F30, R30, F31, R31, F11, hv, ho, chD_eq, cM2, cK2, lenB]
  by_cases h1 : validE g = 0
  · obtain ⟨v1, v2⟩ := valid_len h1
    obtain ⟨_, _, v3, v4⟩ := valid_okV h1
    have hb : (!(validE g == 0)) = false := by simp [h1]
    simp only [hb, Bool.false_eq_true, if_false]
    by_cases h2 : o.ok = true
    · have h2' := Od.ok_iff.1 h2
      simp only [show (Od.ok ⟨o.md, o.ns, o.rs, o.m, o.rd⟩) = true from h2, Bool.not_true, Bool.false_eq_true, if_false]
      by_cases h3 : (M.length == g.N.length) = true
      · by_cases h4 : (K.length == g.C.length) = true
        · simp only [h3, h4, Bool.not_true, Bool.false_eq_true, if_false]
          refine ⟨fun _ => cM1, ?_⟩
          cases h5 : badL M
          · simp only [Bool.false_eq_true, if_false]
            refine ⟨fun _ => cK1, ?_⟩
            cases h6 : badL K
            · have hM : M.length = g.N.length := by simpa using h3
              have hK : K.length = g.C.length := by simpa using h4
              have hE : chkE g o M K = if anyN (badS g.N M) M.length = true then 13 else if withinB g o.m M K = true then (if overB g M K = true then 14 else 0) else 3 := by
                rw [chkE, if_pos h1, if_pos h2, if_neg (by rw [h3, h4, h5, h6]; decide)]
              have p1 : prSs [.i 0, .l (M.map encQ), .i (M.length : Int), .i 0, .s g.nm, .b g.dr, .l g.N, .l g.E, .l g.C] := ⟨.i 0, M, g, 0, rfl, by omega, by omega, by omega, fun q hq => smQ_of (badL_ok h5 q hq)⟩
              have p2 : withP [.s g.nm, .b g.dr, .l g.N, .l g.E, .l g.C, .i o.m, .l (M.map encQ), .l (K.map encQ)] := ⟨g, o.m, M, K, rfl, by omega, by omega, by omega, by omega, fun v hv => by have := v4 v hv; rw [hK]; exact this, fun c hc => ⟨(v3 c hc).1, Int.lt_trans (v3 c hc).2 (by omega)⟩, by omega, by omega⟩
              have p3 : apP [.s g.nm, .b g.dr, .l g.N, .l g.E, .l g.C, .l (M.map encQ), .l (K.map encQ)] := ⟨g, M, K, rfl, h1, hM, hK⟩
              simp only [Bool.false_eq_true, if_false, lpSs_eq]
              refine ⟨fun _ => p1, ?_⟩
              rw [hE]
              rcases scan_any (p := badS g.N M) (hit := fun j => [D.i 0, .i 13, .i (j : Int)]) (miss := fun j => [D.i 1, .i 0, .i (j : Int)]) M.length with ⟨k1, j, _, _, _, k2⟩ | ⟨k1, k2⟩
              · rw [k2, if_pos k1]
                simp only [takeD_zero, takeD_cons, List.cons_append, List.nil_append, List.getD_cons_zero, List.getD_cons_succ, D.int_i, if_true, takeD1_0, show ((0 : Int) == 0) = true from rfl]
              · rw [k2, if_neg (c := anyN (badS g.N M) M.length = true) (by rw [k1]; decide)]
                simp only [takeD_zero, takeD_cons, List.cons_append, List.nil_append, List.getD_cons_zero, List.getD_cons_succ, D.int_i, D.bool_b, Bool.false_eq_true, if_false, show ((1 : Int) == 0) = false from rfl, withD_eq, apD_eq]
                refine ⟨fun _ => p2, ?_⟩
                cases h7 : withinB g o.m M K
                · simp only [Bool.not_false, if_true, Bool.false_eq_true, if_false]
                · simp only [Bool.not_true, Bool.false_eq_true, if_false, if_true]
                  refine ⟨fun _ => p3, ?_⟩
                  cases h8 : overB g M K <;> rfl
            · simp only [if_true]
              rw [chkE_len h1 h2 (by rw [h6]; simp)]
          · simp only [if_true]
            rw [chkE_len h1 h2 (by rw [h5]; simp)]
        · have h4' := Bool.eq_false_iff.2 h4
          simp only [h3, h4', Bool.not_true, Bool.not_false, Bool.false_eq_true, if_false, if_true]
          rw [chkE_len h1 h2 (by rw [h4']; simp)]
      · have h3' := Bool.eq_false_iff.2 h3
        simp only [h3', Bool.not_false, if_true]
        rw [chkE_len h1 h2 (by rw [h3']; simp)]
    · have h2' : Od.ok ⟨o.md, o.ns, o.rs, o.m, o.rd⟩ = false := Bool.eq_false_iff.2 h2
      simp only [h2', Bool.not_false, if_true]
      rw [chkE, if_pos h1, if_neg h2]
  · have hb : (!(validE g == 0)) = true := by simp [h1]
    rw [if_pos hb, chkE_err h1]
end Go.Proofs.Ytindllmeeckfcaa.rv
namespace Go.Proofs.Ytindllmeeckfcaa.rv
set_option maxRecDepth 10000
open Go.RV
theorem loopM75_0 : LoopMeets Try.prog F (R L75_0.key) L75_0 lb75_0 := by
  refine loop_meets (pre := R) mixed (sgAt_all (P := Try.prog) (pre := R) (Φ := F) (l := sg75) ((fun _ h => nomatch h))) (loops_n 0 lk75_0 fun k hk => by omega) L75_0 (fun ρ => (((ρ.getD 0 default).lst.length : Int) - (ρ.getD 3 default).int).toNat) le75_0 fun ρ _ hq => ?_
  obtain ⟨v, xs, n, j, rfl, hj, hm⟩ : prHs ρ := hq
  rw [maxLen_val] at hm
  by_cases hlt : j < xs.length
  · simp (disch := omega) only [rt75_0, VT.ok, Nd.holds, X.ds, X.d, Op1.ev, Op2.ev, List.getD_cons_zero, List.getD_cons_succ, D.int_i, D.bool_b, D.lst_l, Int.toNat_natCast, implies_true, true_and, ↓reduceIte, dle_t, dlt_t, w64']
    show if (cI (el xs j) 0 == n) = true then _ else _
    cases hb : (cI (el xs j) 0 == n)
    · simp only [Bool.false_eq_true, if_false]
      refine round_next ⟨⟨v, xs, n, j + 1, rfl, by omega, hm⟩, ?_, ?_⟩
      · show ((xs.length : Int) - ((j + 1 : Nat) : Int)).toNat < ((xs.length : Int) - (j : Int)).toNat
        omega
      · show lpHs [.l xs, .i n, v, .i ((j + 1 : Nat) : Int)] = lpHs [.l xs, .i n, v, .i (j : Int)]
        simp only [lpHs, scB, Int.toNat_natCast]
        exact scan_next hlt hb
    · simp only [if_true]
      refine round_exit (by omega) ?_
      show lpHs [.l xs, .i n, v, .i (j : Int)] = _
      simp only [lpHs, scB, Int.toNat_natCast]
      exact scan_hit hlt hb
  · have hj' : j = xs.length := by omega
    subst hj'
    simp (disch := omega) only [rt75_0, VT.ok, X.ds, X.d, Op1.ev, Op2.ev, List.getD_cons_zero, List.getD_cons_succ, D.int_i, D.bool_b, D.lst_l, Bool.false_eq_true, ↓reduceIte, dlt_f]
    refine round_exit (by omega) ?_
    show lpHs [.l xs, .i n, v, .i (xs.length : Int)] = _
    simp only [lpHs, scB, Int.toNat_natCast]
    exact scan_end
theorem m75 : Meets Try.prog 75 S75 (R 75) (F 75) := by
  refine meets_of_vt (pre := R) (Φ := F) mixed (sgAt_all (P := Try.prog) (pre := R) (Φ := F) (l := sg75) ((fun _ h => nomatch h))) Try.func75 b75 n75 (loops_n 1 k75 fun k hk => match k, hk with | 0, _ => loop_this lf75_0 loopM75_0) e75 fun ds hf _ => ?_
  obtain ⟨x, y, rfl, hx, hy⟩ := fits2 hf.flat
  obtain ⟨xs, rfl, hm, _⟩ := wf_sl hx
  obtain ⟨n, rfl, _⟩ := wf_i64 hy
  have e1 : lpHs [.l xs, .i n, .b false, .i 0] = scanN (fun j => cI (el xs j) 0 == n) (fun j => [.i 0, .b true, .i (j : Int)]) (fun j => [.i 1, .b false, .i (j : Int)]) xs.length 0 := by
    simp only [lpHs, scB, Int.toNat_zero, Nat.sub_zero]
  have p1 : prHs [.l xs, .i n, .b false, .i 0] := ⟨_, xs, n, 0, rfl, by omega, hm⟩
  simp only [vt75, VT.ok, Nd.holds, X.outs, X.ds, X.d, Op2.ev, List.cons_append, List.nil_append, List.getD_cons_zero, List.getD_cons_succ, D.int_i, D.bool_b, F17500, R17500, F75, e1]
  refine ⟨fun _ => p1, ?_⟩
  rcases scan_any (p := fun j => cI (el xs j) 0 == n) (hit := fun j => [D.i 0, .b true, .i (j : Int)]) (miss := fun j => [D.i 1, .b false, .i (j : Int)]) xs.length with ⟨k1, j, _, _, _, k2⟩ | ⟨k1, k2⟩
  · rw [k2]
    show _ = [D.b (anyN (fun j => cI (el xs j) 0 == n) xs.length)]
    rw [k1]; rfl
  · rw [k2]
    show _ = [D.b (anyN (fun j => cI (el xs j) 0 == n) xs.length)]
    rw [k1]
theorem hsD_eq (l : List Nat) (w : Nat) : hsD [.l (l.map encN), .i (w : Int)] = [.b (l.contains w)] := by
  rw [← hasN]
  show [D.b (anyN _ (l.map encN).length)] = _
  rw [List.length_map]
  refine congrArg (fun b => [D.b b]) (anyN_congr fun k _ => ?_)
  show (cI (el (l.map encN) k) 0 == (w : Int)) = ((w : Int) == cI (el (l.map encN) k) 0)
  rw [Bool.eq_iff_iff, beq_iff_eq, beq_iff_eq]
  exact eq_comm
theorem loopM76_0 : LoopMeets Try.prog F (R L76_0.key) L76_0 lb76_0 := by
  refine loop_meets (pre := R) mixed (sgAt_all (P := Try.prog) (pre := R) (Φ := F) (l := sg76) ((fun _ h => nomatch h))) (loops_n 0 lk76_0 fun k hk => by omega) L76_0 (fun ρ => ((ρ.getD 0 default).int + 1).toNat) le76_0 fun ρ _ hq => ?_
  obtain ⟨a, b, v, g, rfl, hat, hrow⟩ : prIn ρ := hq
  have hat0 := hat
  obtain ⟨h1, h2, h3, h4⟩ := hat
  by_cases h0 : 0 ≤ a
  · have hn : a.toNat < g.C.length := by omega
    have hr : (g.C.getD a.toNat []).getD 1 default = .i (cI (el g.C a.toNat) 1) := hrow _ hn
    have hb := h4 a.toNat (by omega)
    by_cases hc : a = b
    · subst hc
      simp (disch := omega) only [rt76_0, VT.ok, X.ds, X.d, Op2.ev, List.getD_cons_zero, List.getD_cons_succ, D.int_i, D.bool_b, ↓reduceIte, dle_t, beq_t]
      refine round_exit (by omega) ?_
      show lpIn [.i a, .i a, v, .s g.nm, .b g.dr, .l g.N, .l g.E, .l g.C] = _
      simp only [lpIn, around_at h0 h4]
      rw [if_pos (by simp)]
    · simp (disch := omega) only [rt76_0, VT.ok, Nd.holds, X.ds, X.d, Op1.ev, Op2.ev, List.getD_cons_zero, List.getD_cons_succ, D.int_i, D.bool_b, D.lst_l, Bool.false_eq_true, implies_true, true_and, ↓reduceIte, dle_t, dlt_t, beq_f, hr]
      refine round_next ⟨⟨cI (el g.C a.toNat) 1, b, v, g, rfl, atC_up hat0 h0, hrow⟩, ?_, ?_⟩
      · show (cI (el g.C a.toNat) 1 + 1).toNat < (a + 1).toNat
        omega
      · show lpIn [.i (cI (el g.C a.toNat) 1), .i b, v, .s g.nm, .b g.dr, .l g.N, .l g.E, .l g.C] = lpIn [.i a, .i b, v, .s g.nm, .b g.dr, .l g.N, .l g.E, .l g.C]
        simp only [lpIn, around_at h0 h4]
        rw [List.contains_cons, show (b == a) = false from beq_f (by omega), Bool.false_or]
  · simp (disch := omega) only [rt76_0, VT.ok, X.ds, X.d, Op2.ev, List.getD_cons_zero, List.getD_cons_succ, D.int_i, D.bool_b, Bool.false_eq_true, ↓reduceIte, dle_f]
    refine round_exit (by omega) ?_
    show lpIn [.i a, .i b, v, .s g.nm, .b g.dr, .l g.N, .l g.E, .l g.C] = _
    have : a = -1 := by omega
    subst this
    simp only [lpIn, around_neg (show (-1 : Int) < 0 by omega)]
    rfl
theorem innD_eq (g : Gd) (a b : Int) : innD [.s g.nm, .b g.dr, .l g.N, .l g.E, .l g.C, .i a, .i b] = [.b ((around g.C a).contains b)] := rfl
theorem m76 : Meets Try.prog 76 S76 (R 76) (F 76) := by
  refine meets_of_vt (pre := R) (Φ := F) mixed (sgAt_all (P := Try.prog) (pre := R) (Φ := F) (l := sg76) ((fun _ h => nomatch h))) Try.func76 b76 n76 (loops_n 1 k76 fun k hk => match k, hk with | 0, _ => loop_this lf76_0 loopM76_0) e76 fun ds hf hq => ?_
  obtain ⟨g, ds', rfl, h5, _, _, _, ⟨_, hC⟩⟩ := fitsG hf.flat
  obtain ⟨x, y, rfl, hx, hy⟩ := fits2 h5
  obtain ⟨a, rfl, _⟩ := wf_i64 hx
  obtain ⟨b, rfl, _⟩ := wf_i64 hy
  have hat : atC g.C a := hq
  have hpre : prIn [.i a, .i b, .b false, .s g.nm, .b g.dr, .l g.N, .l g.E, .l g.C] := ⟨a, b, _, g, rfl, hat, rowI1_of hC⟩
  simp only [vt76, VT.ok, Nd.holds, X.outs, X.ds, X.d, Op2.ev, List.cons_append, List.nil_append, List.getD_cons_zero, List.getD_cons_succ, D.int_i, D.bool_b, F17600, R17600, F76, innD_eq]
  refine ⟨fun _ => hpre, ?_⟩
  cases h : (around g.C a).contains b
  · simp only [lpIn, h, Bool.false_eq_true, if_false, takeD_zero, takeD_cons, List.getD_cons_zero, List.getD_cons_succ, D.int_i, Bool.false_eq_true, if_false]
    rw [if_neg (by decide)]; trivial
  · simp only [lpIn, h, if_true, takeD_zero, takeD_cons, List.getD_cons_zero, List.getD_cons_succ, D.int_i, if_true]
    rw [if_pos (by rfl)]; trivial
theorem loopM44_0 : LoopMeets Try.prog F (R L44_0.key) L44_0 lb44_0 := by
  refine loop_meets (pre := R) mixed (sgAt_all (P := Try.prog) (pre := R) (Φ := F) (l := sg44) (List.forall_mem_cons.2 ⟨Meets.at (pre := R) (Φ := F) m36, (fun _ h => nomatch h)⟩)) (loops_n 0 lk44_0 fun k hk => by omega) L44_0 (fun ρ => (((ρ.getD 0 default).lst.length : Int) - (ρ.getD 2 default).int).toNat) le44_0 fun ρ _ hq => ?_
  obtain ⟨v, M, j, rfl, hj, hm⟩ : prZd ρ := hq
  rw [maxLen_val] at hm
  by_cases hlt : j < M.length
  · simp (disch := omega) only [rt44_0, VT.ok, Nd.holds, X.outs, X.ds, X.d, Op1.ev, Op2.ev, takeD_zero, takeD_cons, List.cons_append, List.nil_append, List.getD_cons_zero, List.getD_cons_succ, D.int_i, D.bool_b, D.lst_l, Int.toNat_natCast, List.length_map, implies_true, true_and, F36, R36, ↓reduceIte, dle_t, dlt_t, w64', rowQz, encQ, fn36_eq]
    rw [show bxB (M.getD j z4).1 (M.getD j z4).2.1 (M.getD j z4).2.2.1 (M.getD j z4).2.2.2 = bxQ (M.getD j z4) from rfl]
    show if (!bxQ (M.getD j z4)) = true then _ else _
    cases hb : (!bxQ (M.getD j z4))
    · simp only [Bool.false_eq_true, if_false]
      refine round_next ⟨⟨v, M, j + 1, rfl, by omega, hm⟩, ?_, ?_⟩
      · show (((M.map encQ).length : Int) - ((j + 1 : Nat) : Int)).toNat < (((M.map encQ).length : Int) - (j : Int)).toNat
        rw [List.length_map]; omega
      · show lpZd [.l (M.map encQ), v, .i ((j + 1 : Nat) : Int)] = lpZd [.l (M.map encQ), v, .i (j : Int)]
        simp only [lpZd, map_decQ, List.length_map, scB, Int.toNat_natCast]
        exact scan_next hlt hb
    · simp only [if_true]
      refine round_exit (by omega) ?_
      show lpZd [.l (M.map encQ), v, .i (j : Int)] = _
      simp only [lpZd, map_decQ, List.length_map, scB, Int.toNat_natCast]
      exact scan_hit hlt hb
  · have hj' : j = M.length := by omega
    subst hj'
    simp (disch := omega) only [rt44_0, VT.ok, X.ds, X.d, Op1.ev, Op2.ev, List.getD_cons_zero, List.getD_cons_succ, D.int_i, D.bool_b, D.lst_l, List.length_map, Bool.false_eq_true, ↓reduceIte, dlt_f]
    refine round_exit (by omega) ?_
    show lpZd [.l (M.map encQ), v, .i (M.length : Int)] = _
    simp only [lpZd, map_decQ, List.length_map, scB, Int.toNat_natCast]
    exact scan_end
theorem zdD_eq (M : List Bx) (n : Int) : zdD [.l (M.map encQ), .i n] = [.b (!badL M && ((M.length : Int) == n))] := by
  show [D.b (!badL ((M.map encQ).map decQ) && (((M.map encQ).length : Int) == n))] = _
  rw [map_decQ, List.length_map]
theorem m44 : Meets Try.prog 44 S44 (R 44) (F 44) := by
  refine meets_of_vt (pre := R) (Φ := F) mixed (sgAt_all (P := Try.prog) (pre := R) (Φ := F) (l := sg44) (List.forall_mem_cons.2 ⟨Meets.at (pre := R) (Φ := F) m36, (fun _ h => nomatch h)⟩)) Try.func44 b44 n44 (loops_n 1 k44 fun k hk => match k, hk with | 0, _ => loop_this lf44_0 loopM44_0) e44 fun ds hf _ => ?_
  obtain ⟨x, y, rfl, hx, hy⟩ := fits2 hf.flat
  obtain ⟨M, rfl, hm, _⟩ := slQ hx
  obtain ⟨n, rfl, _⟩ := wf_i64 hy
  have e1 : lpZd [.l (M.map encQ), .b false, .i 0] = scanN (fun w => !bxQ (M.getD w z4)) (fun j => [.i 0, .b false, .i (j : Int)]) (fun j => [.i 1, .b false, .i (j : Int)]) M.length 0 := by
    simp only [lpZd, map_decQ, List.length_map, scB, Int.toNat_zero, Nat.sub_zero]
  have p1 : prZd [.l (M.map encQ), .b false, .i 0] := ⟨_, M, 0, rfl, by omega, hm⟩
  simp only [vt44, VT.ok, Nd.holds, X.outs, X.ds, X.d, Op1.ev, Op2.ev, List.cons_append, List.nil_append, List.getD_cons_zero, List.getD_cons_succ, D.int_i, D.bool_b, D.lst_l, List.length_map, F14400, R14400, F44, e1, zdD_eq]
  refine ⟨fun _ => p1, ?_⟩
  rcases scan_any (p := fun w => !bxQ (M.getD w z4)) (hit := fun j => [D.i 0, .b false, .i (j : Int)]) (miss := fun j => [D.i 1, .b false, .i (j : Int)]) M.length with ⟨k1, j, _, _, _, k2⟩ | ⟨k1, k2⟩
  · have k1' : badL M = true := k1
    rw [k2, k1']; rfl
  · have k1' : badL M = false := k1
    rw [k2, k1']; rfl
theorem okIrD_eq (q : Bx) (K : List Bx) (c : D) (m : Int) : okIrD [.i q.1, .i q.2.1, .i q.2.2.1, .i q.2.2.2, .l (K.map encQ), c, .i m] = [.b (okIn q K c.int m)] := by
  show [D.b (okIn q ((K.map encQ).map decQ) c.int m)] = _
  rw [map_decQ]
theorem m45 : Meets Try.prog 45 S45 (R 45) (F 45) := by
  refine meets_of_vt (pre := R) (Φ := F) mixed (sgAt_all (P := Try.prog) (pre := R) (Φ := F) (l := sg45) (List.forall_mem_cons.2 ⟨Meets.at (pre := R) (Φ := F) m73, List.forall_mem_cons.2 ⟨Meets.at (pre := R) (Φ := F) m72, (fun _ h => nomatch h)⟩⟩)) Try.func45 b45 n45 (loops_n 0 k45 fun k hk => by omega) e45 fun ds _ hq => ?_
  obtain ⟨q, c, K, m, rfl, hc, hm⟩ : okIrP ds := hq
  have hn : IntKind.i64.wrap (-m) = -m := w64 (by omega)
  have hif := fn73_eq (K.getD c.int.toNat z4) (-m)
  by_cases h0 : c.int < 0
  · have hd : decide (c.int < 0) = true := decide_eq_true h0
    simp (disch := omega) only [vt45, VT.ok, Nd.holds, X.outs, X.ds, X.d, Op1.ev, Op2.ev, List.cons_append, List.nil_append, List.getD_cons_zero, List.getD_cons_succ, D.int_i, D.bool_b, D.lst_l, List.length_map, Bool.false_eq_true, implies_true, and_true, false_implies, F73, R73, F72, R72, F45, ↓reduceIte, dle_f, dlt_t, w64', okIrD_eq, okIn, hd, Bool.not_true, Bool.true_or]
  · have hd : decide (c.int < 0) = false := decide_eq_false h0
    simp (disch := omega) only [vt45, VT.ok, Nd.holds, X.outs, X.ds, X.d, Op1.ev, Op2.ev, takeD_zero, takeD_cons, List.cons_append, List.nil_append, List.getD_cons_zero, List.getD_cons_succ, D.int_i, D.bool_b, D.lst_l, List.length_map, Bool.false_eq_true, implies_true, and_true, F73, R73, F72, R72, F45, ↓reduceIte, dle_t, dlt_t, okIrD_eq, okIn, hd, Bool.not_false, Bool.false_or, List.length_map, rowQz, encQ, hn, Int.zero_sub, hif, fn72_eq]
end Go.Proofs.Ytindllmeeckfcaa.rv
