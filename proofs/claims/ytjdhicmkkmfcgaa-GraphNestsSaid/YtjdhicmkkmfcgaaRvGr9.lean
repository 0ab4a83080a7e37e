/-
  Graphs: members, depths, common clusters.
-/
import Derived.Test.YtjdhicmkkmfcgaaRvGr8
namespace Go.Proofs.Ytjdhicmkkmfcgaa.rv
open Go.RV

theorem valid_parts {g : Gd} (h : validE g = 0) : (g.N.length ≤ 64 ∧ g.E.length ≤ 256 ∧ g.C.length ≤ 16) ∧ isName g.nm = true ∧ (∀ k, k < g.N.length → nodeE g.N g.C k = 0) ∧ (∀ k, k < g.C.length → cluE g.N g.C k = 0) ∧ ∀ k, k < g.E.length → edgeE g.N (el g.E k) = 0 := by
  unfold validE at h
  split at h
  · omega
  · split at h
    · split at h
      · rename_i h0 h1 h2
        split at h
        · rename_i h3
          exact ⟨by omega, h1, fe_ok.1 h2, fe_ok.1 h3, fe_ok.1 h⟩
        · omega
      · omega
    · omega
theorem node_cl {N C : List (List D)} {i : Nat} (h : nodeE N C i = 0) : -1 ≤ cI (el N i) 4 ∧ cI (el N i) 4 < C.length := by
  unfold nodeE at h
  split at h
  · split at h
    · omega
    · split at h
      · split at h
        · rename_i h1
          simp only [Bool.and_eq_true, Bool.not_eq_true', decide_eq_false_iff_not] at h1
          omega
        · omega
      · omega
  · omega
theorem valid_okV {g : Gd} (h : validE g = 0) : okV g := by
  obtain ⟨⟨h1, _, h3⟩, _, h4, h5, _⟩ := valid_parts h
  exact ⟨h1, h3, okC_of h5, fun v hv => node_cl (h4 v hv)⟩
theorem okV_at {g : Gd} (h : okV g) {c : Int} (h0 : -1 ≤ c) (h1 : c < g.C.length) : atC g.C c := ⟨h0, h1, h.2.1, h.2.2.1.mono (by omega)⟩

theorem fits_get : ∀ {cts : List CT} {x : List D}, FitsF cts x → ∀ {j : Nat} {ct : CT}, cts[j]? = some ct → Wf ct (x.getD j default)
  | [], [], _, j, ct, hj => by simp at hj
  | c :: cts, d :: ds, ⟨h, h'⟩, 0, ct, hj => by simp at hj; subst hj; exact h
  | c :: cts, d :: ds, ⟨h, h'⟩, j + 1, ct, hj => by simpa using fits_get h' (j := j) (by simpa using hj)
  | [], _ :: _, h, _, _, _ => h.elim
  | _ :: _, [], h, _, _, _ => h.elim
theorem row_i {N : List (List D)} {cts : List CT} (h : ∀ x ∈ N, FitsF cts x) {j : Nat} (hj : cts[j]? = some (.int .i64)) {i : Nat} (hi : i < N.length) : (el N i).getD j default = .i (cI (el N i) j) := by
  obtain ⟨z, e, _⟩ := wf_i64 (fits_get (h _ (getD_mem [] hi)) hj)
  simp only [cI]
  rw [e]; rfl

/-! ### has -/
theorem loopM44_0 : LoopMeets Try.prog F (R L44_0.key) L44_0 lb44_0 := by
  refine loop_meets (pre := R) mixed (sgAt_all (P := Try.prog) (pre := R) (Φ := F) (l := sg44) ((fun _ h => nomatch h))) (loops_n 0 lk44_0 fun k hk => by omega) L44_0 (fun ρ => ((ρ.getD 2 default).int + 1).toNat) le44_0 fun ρ _ hq => ?_
  obtain ⟨c, v, k, g, rfl, hat, hrow⟩ : prHas ρ := hq
  have hat0 := hat
  obtain ⟨h1, h2, h3, h4⟩ := hat
  by_cases h0 : 0 ≤ k
  · have hn : k.toNat < g.C.length := by omega
    have hr : (g.C.getD k.toNat []).getD 1 default = .i (cI (el g.C k.toNat) 1) := hrow _ hn
    have hb := h4 k.toNat (by omega)
    by_cases hc : k = c
    · subst hc
      simp (disch := omega) only [rt44_0, VT.ok, X.ds, X.d, Op2.ev, List.getD_cons_zero, List.getD_cons_succ, D.int_i, D.bool_b, ↓reduceIte, dle_t, beq_t]
      refine round_exit (by omega) ?_
      show lpHas [.i k, v, .i k, .s g.nm, .b g.dr, .l g.N, .l g.E, .l g.C] = _
      simp only [lpHas, around_at h0 h4]
      rw [if_pos (by simp)]
    · simp (disch := omega) only [rt44_0, VT.ok, Nd.holds, X.ds, X.d, Op1.ev, Op2.ev, List.getD_cons_zero, List.getD_cons_succ, D.int_i, D.bool_b, D.lst_l, Bool.false_eq_true, implies_true, true_and, ↓reduceIte, dle_t, dlt_t, beq_f, hr]
      refine round_next ⟨⟨c, v, cI (el g.C k.toNat) 1, g, rfl, atC_up hat0 h0, hrow⟩, ?_, ?_⟩
      · show (cI (el g.C k.toNat) 1 + 1).toNat < (k + 1).toNat
        omega
      · show lpHas [.i c, v, .i (cI (el g.C k.toNat) 1), .s g.nm, .b g.dr, .l g.N, .l g.E, .l g.C] = lpHas [.i c, v, .i k, .s g.nm, .b g.dr, .l g.N, .l g.E, .l g.C]
        simp only [lpHas, around_at h0 h4]
        rw [List.contains_cons, show (c == k) = false from beq_f (by omega), Bool.false_or]
  · simp (disch := omega) only [rt44_0, VT.ok, X.ds, X.d, Op2.ev, List.getD_cons_zero, List.getD_cons_succ, D.int_i, D.bool_b, Bool.false_eq_true, ↓reduceIte, dle_f]
    refine round_exit (by omega) ?_
    show lpHas [.i c, v, .i k, .s g.nm, .b g.dr, .l g.N, .l g.E, .l g.C] = _
    have : k = -1 := by omega
    subst this
    simp only [lpHas, around_neg (show (-1 : Int) < 0 by omega)]
    rfl
theorem nat_of {x : D} {v : Nat} (e : x = .i (v : Int)) : x.int.toNat = v := by subst e; rfl
theorem m44 : Meets Try.prog 44 S44 (R 44) (F 44) := by
  refine meets_of_vt (pre := R) (Φ := F) mixed (sgAt_all (P := Try.prog) (pre := R) (Φ := F) (l := sg44) ((fun _ h => nomatch h))) Try.func44 b44 n44 (loops_n 1 k44 fun k hk => match k, hk with | 0, _ => loop_this lf44_0 loopM44_0) e44 fun ds hf hq => ?_
  obtain ⟨g, ds', rfl, h5, _, ⟨_, hN⟩, _, ⟨_, hC⟩⟩ := fitsG hf.flat
  obtain ⟨x, y, rfl, hx, _⟩ := fits2 h5
  obtain ⟨c, rfl, _⟩ := wf_i64 hx
  obtain ⟨hv, hc, v, e, hlt⟩ : prHasF (.s g.nm :: .b g.dr :: .l g.N :: .l g.E :: .l g.C :: [.i c, y]) := hq
  have e : y = .i (v : Int) := e
  subst e
  have hc : -1 ≤ c := hc
  have hlt : v < g.N.length := hlt
  have hv : okV g := hv
  have hb := hv.2.2.2 v hlt
  have hat := okV_at hv hb.1 hb.2
  by_cases h0 : c = -1
  · subst h0
    simp (disch := omega) only [vt44, VT.ok, X.ds, X.d, Op2.ev, List.getD_cons_zero, List.getD_cons_succ, D.int_i, D.bool_b, D.lst_l, Int.toNat_natCast, F44, ↓reduceIte, dlt_t, beq_t, hasD, inN, cL, cI, Bool.true_or]
  · have hr : (g.N.getD v []).getD 4 default = .i (cI (el g.N v) 4) := row_i hN rfl hlt
    generalize cI (el g.N v) 4 = z at *
    have hpre : prHas [.i c, .b false, .i z, .s g.nm, .b g.dr, .l g.N, .l g.E, .l g.C] := ⟨c, _, _, g, rfl, hat, rowI1_of hC⟩
    simp (disch := omega) only [vt44, VT.ok, Nd.holds, X.outs, X.ds, X.d, Op1.ev, Op2.ev, List.cons_append, List.nil_append, List.getD_cons_zero, List.getD_cons_succ, D.int_i, D.bool_b, D.lst_l, Int.toNat_natCast, Bool.false_eq_true, implies_true, true_and, F14400, R14400, F44, ↓reduceIte, dle_t, dlt_t, dlt_f, beq_f, hasD, inN, cL, cI, hr, Bool.false_or]
    refine ⟨fun _ => hpre, ?_⟩
    cases h : (around g.C z).contains c
    · simp only [lpHas, h, Bool.false_eq_true, if_false, takeD_zero, takeD_cons, List.getD_cons_zero, List.getD_cons_succ, D.int_i, Bool.false_eq_true, if_false]
      rw [if_neg (by decide)]; trivial
    · simp only [lpHas, h, if_true, takeD_zero, takeD_cons, List.getD_cons_zero, List.getD_cons_succ, D.int_i, if_true]
      rw [if_pos (by rfl)]; trivial

/-! ### members -/
theorem any_map (l : List Int) (c : Int) : anyN (fun j => c == cI (el (l.map encI) j) 0) l.length = l.contains c := by
  rw [Bool.eq_iff_iff, anyN_iff, List.contains_iff_mem]
  have e : ∀ j, j < l.length → cI (el (l.map encI) j) 0 = l.getD j 0 := fun j hj => by
    simp only [cI, el]
    rw [rowI hj]; rfl
  constructor
  · rintro ⟨j, hj, h⟩
    rw [e j hj] at h
    have : c = l.getD j 0 := by simpa using h
    rw [this]
    exact getD_mem 0 hj
  · intro h
    obtain ⟨j, hj, rfl⟩ := List.mem_iff_getElem.1 h
    exact ⟨j, hj, by rw [e j hj]; simp [List.getD, hj]⟩
theorem loopM19_0 : LoopMeets Try.prog F (R L19_0.key) L19_0 lb19_0 := by
  refine loop_meets (pre := R) mixed (sgAt_all (P := Try.prog) (pre := R) (Φ := F) (l := sg19) (List.forall_mem_cons.2 ⟨Meets.at (pre := R) (Φ := F) m9, List.forall_mem_cons.2 ⟨Meets.at (pre := R) (Φ := F) m43, List.forall_mem_cons.2 ⟨Meets.at (pre := R) (Φ := F) m42, (fun _ h => nomatch h)⟩⟩⟩)) (loops_n 0 lk19_0 fun k hk => by omega) L19_0 (fun ρ => ((ρ.getD 2 default).int - (ρ.getD 3 default).int).toNat) le19_0 fun ρ _ hq => ?_
  obtain ⟨c, g, j, acc, rfl, hj, hv, hc, ha⟩ : prMem ρ := hq
  have h64 := hv.1
  by_cases hlt : j < g.N.length
  · have hb := hv.2.2.2 j hlt
    have hat := okV_at hv hb.1 hb.2
    have hN : ∀ xs, xs = inR g.N g.C c j → RoundOk F (R L19_0.key) (fun ρ => ((ρ.getD 2 default).int - (ρ.getD 3 default).int).toNat) L19_0 [.i c, .l g.N, .i (g.N.length : Int), .i (j : Int), .s g.nm, .b g.dr, .l g.N, .l g.E, .l g.C, .l acc] [.i (-1), .i ((j + 1 : Nat) : Int), .l (acc ++ xs)] := by
      rintro xs rfl
      have hl : (inR g.N g.C c j).length ≤ 1 := by unfold inR; split <;> simp
      refine round_next ⟨⟨c, g, j + 1, _, rfl, by omega, hv, hc, by rw [List.length_append]; omega⟩, ?_, ?_⟩
      · show ((g.N.length : Int) - ((j + 1 : Nat) : Int)).toNat < ((g.N.length : Int) - (j : Int)).toNat
        omega
      · show lpMem [.i c, .l g.N, .i (g.N.length : Int), .i ((j + 1 : Nat) : Int), .s g.nm, .b g.dr, .l g.N, .l g.E, .l g.C, .l (acc ++ inR g.N g.C c j)] = lpMem [.i c, .l g.N, .i (g.N.length : Int), .i (j : Int), .s g.nm, .b g.dr, .l g.N, .l g.E, .l g.C, .l acc]
        simp only [lpMem, Int.toNat_natCast]
        rw [coll_next (f := inR g.N g.C c) hlt acc]
    simp (disch := omega) only [rt19_0, VT.ok, Nd.holds, X.outs, X.ds, X.d, Op1.ev, Op2.ev, takeD_zero, takeD_cons, List.cons_append, List.nil_append, List.getD_cons_zero, List.getD_cons_succ, D.int_i, D.bool_b, D.lst_l, ite_b, ite_or, Int.toNat_natCast, List.length_map, implies_true, true_and, F43, R43, F42, R42, ↓reduceIte, dle_t, dlt_t, w64', aroundD, ciFn, cL, cI, List.length_append, List.length_cons, List.length_nil]
    refine ⟨fun _ => hat, ?_⟩
    show if (decide (c < 0) || anyN (fun k => c == cI (el ((around g.C (cI (el g.N j) 4)).map encI) k) 0) (around g.C (cI (el g.N j) 4)).length) = true then _ else _
    rw [any_map]
    cases h : (decide (c < 0) || (around g.C (cI (el g.N j) 4)).contains c)
    · simp only [Bool.false_eq_true, if_false]
      have := hN [] (by rw [inR, inN, h]; rfl)
      rw [List.append_nil] at this
      exact this
    · simp only [if_true]
      exact hN [[.i (j : Int)]] (by rw [inR, inN, h]; rfl)
  · have hj' : j = g.N.length := by omega
    subst hj'
    simp (disch := omega) only [rt19_0, VT.ok, X.ds, X.d, Op2.ev, List.getD_cons_zero, List.getD_cons_succ, D.int_i, D.bool_b, Bool.false_eq_true, ↓reduceIte, dlt_f]
    refine round_exit (by omega) ?_
    show lpMem [.i c, .l g.N, .i (g.N.length : Int), .i (g.N.length : Int), .s g.nm, .b g.dr, .l g.N, .l g.E, .l g.C, .l acc] = _
    simp only [lpMem, Int.toNat_natCast, coll_end]
theorem valid_c {g : Gd} {c : Int} (h : ¬ (validE g = 0 ∧ -1 ≤ c ∧ c < g.C.length)) : ((!(validE g == 0) || decide (c < -1)) || decide ((g.C.length : Int) ≤ c)) = true := by
  simp only [Bool.or_eq_true, Bool.not_eq_true', beq_eq_false_iff_ne, decide_eq_true_eq]
  omega
theorem valid_c' {g : Gd} {c : Int} (h : validE g = 0 ∧ -1 ≤ c ∧ c < g.C.length) : ((!(validE g == 0) || decide (c < -1)) || decide ((g.C.length : Int) ≤ c)) = false := by
  simp only [Bool.or_eq_false_iff, Bool.not_eq_false', beq_iff_eq, decide_eq_false_iff_not]
  omega
theorem gOf_eq (g : Gd) (l : List D) : gOf (.s g.nm :: .b g.dr :: .l g.N :: .l g.E :: .l g.C :: l) = g := rfl
theorem m19 : Meets Try.prog 19 S19 (R 19) (F 19) := by
  refine meets_of_vt (pre := R) (Φ := F) mixed (sgAt_all (P := Try.prog) (pre := R) (Φ := F) (l := sg19) (List.forall_mem_cons.2 ⟨Meets.at (pre := R) (Φ := F) m9, List.forall_mem_cons.2 ⟨Meets.at (pre := R) (Φ := F) m43, List.forall_mem_cons.2 ⟨Meets.at (pre := R) (Φ := F) m42, (fun _ h => nomatch h)⟩⟩⟩)) Try.func19 b19 n19 (loops_n 1 k19 fun k hk => match k, hk with | 0, _ => loop_this lf19_0 loopM19_0) e19 fun ds hf hq => ?_
  obtain ⟨g, ds', rfl, h5, _⟩ := fitsG hf.flat
  obtain ⟨x, rfl, hx⟩ := fits1 h5
  obtain ⟨c, rfl, _⟩ := wf_i64 hx
  by_cases h : validE g = 0 ∧ -1 ≤ c ∧ c < g.C.length
  · have hpre : prMem [.i c, .l g.N, .i (g.N.length : Int), .i 0, .s g.nm, .b g.dr, .l g.N, .l g.E, .l g.C, .l []] := ⟨c, g, 0, [], rfl, by omega, valid_okV h.1, h.2.1, by simp⟩
    simp only [vt19, VT.ok, Nd.holds, X.outs, X.ds, X.d, Op1.ev, Op2.ev, takeD_zero, takeD_cons, List.cons_append, List.nil_append, List.getD_cons_zero, List.getD_cons_succ, D.int_i, D.bool_b, D.lst_l, ite_b, ite_or, Bool.false_eq_true, if_false, implies_true, true_and, and_true, F9, R9, F11900, R11900, F19, validD, gOf_eq, valid_c' h, memD, memR, if_pos h, cI, lpMem, Int.toNat_zero, mems]
    exact fun _ => hpre
  · simp only [vt19, VT.ok, Nd.holds, X.outs, X.ds, X.d, Op1.ev, Op2.ev, takeD_zero, takeD_cons, List.cons_append, List.nil_append, List.getD_cons_zero, List.getD_cons_succ, D.int_i, D.bool_b, D.lst_l, ite_b, ite_or, if_true, implies_true, and_true, F9, R9, F11900, R11900, F19, validD, gOf_eq, valid_c h, memD, memR, if_neg h, cI]
theorem loopM20_0 : LoopMeets Try.prog F (R L20_0.key) L20_0 lb20_0 := by
  refine loop_meets (pre := R) mixed (sgAt_all (P := Try.prog) (pre := R) (Φ := F) (l := sg20) (List.forall_mem_cons.2 ⟨Meets.at (pre := R) (Φ := F) m10, List.forall_mem_cons.2 ⟨Meets.at (pre := R) (Φ := F) m44, (fun _ h => nomatch h)⟩⟩)) (loops_n 0 lk20_0 fun k hk => by omega) L20_0 (fun ρ => (((ρ.getD 4 default).lst.length : Int) - (ρ.getD 1 default).int).toNat) le20_0 fun ρ _ hq => ?_
  obtain ⟨c, g, j, acc, rfl, hj, hv, hc, ha⟩ : prMemR ρ := hq
  have h64 := hv.1
  by_cases hlt : j < g.N.length
  · have hb := hv.2.2.2 j hlt
    have hh : prHasF [.s g.nm, .b g.dr, .l g.N, .l g.E, .l g.C, .i c, .i (j : Int)] := ⟨hv, hc, j, rfl, hlt⟩
    have hN : ∀ xs, xs = inR g.N g.C c j → RoundOk F (R L20_0.key) (fun ρ => (((ρ.getD 4 default).lst.length : Int) - (ρ.getD 1 default).int).toNat) L20_0 [.i c, .i (j : Int), .s g.nm, .b g.dr, .l g.N, .l g.E, .l g.C, .l acc] [.i (-1), .i ((j + 1 : Nat) : Int), .l (acc ++ xs)] := by
      rintro xs rfl
      have hl : (inR g.N g.C c j).length ≤ 1 := by unfold inR; split <;> simp
      refine round_next ⟨⟨c, g, j + 1, _, rfl, by omega, hv, hc, by rw [List.length_append]; omega⟩, ?_, ?_⟩
      · show ((g.N.length : Int) - ((j + 1 : Nat) : Int)).toNat < ((g.N.length : Int) - (j : Int)).toNat
        omega
      · show lpMemR [.i c, .i ((j + 1 : Nat) : Int), .s g.nm, .b g.dr, .l g.N, .l g.E, .l g.C, .l (acc ++ inR g.N g.C c j)] = lpMemR [.i c, .i (j : Int), .s g.nm, .b g.dr, .l g.N, .l g.E, .l g.C, .l acc]
        simp only [lpMemR, Int.toNat_natCast]
        rw [coll_next (f := inR g.N g.C c) hlt acc]
    simp (disch := omega) only [rt20_0, VT.ok, Nd.holds, X.outs, X.ds, X.d, Op1.ev, Op2.ev, takeD_zero, takeD_cons, List.cons_append, List.nil_append, List.getD_cons_zero, List.getD_cons_succ, D.int_i, D.bool_b, D.lst_l, Int.toNat_natCast, implies_true, true_and, F44, R44, ↓reduceIte, dle_t, dlt_t, w64', hasD, cL, cI, Int.toNat_natCast, List.length_append, List.length_cons, List.length_nil]
    refine ⟨fun _ => hh, ?_⟩
    cases h : inN g.N g.C c j
    · simp only [Bool.false_eq_true, if_false]
      have := hN [] (by rw [inR, h]; rfl)
      rw [List.append_nil] at this
      exact this
    · simp only [if_true]
      exact hN [[.i (j : Int)]] (by rw [inR, h]; rfl)
  · have hj' : j = g.N.length := by omega
    subst hj'
    simp (disch := omega) only [rt20_0, VT.ok, X.ds, X.d, Op1.ev, Op2.ev, List.getD_cons_zero, List.getD_cons_succ, D.int_i, D.bool_b, D.lst_l, Bool.false_eq_true, ↓reduceIte, dlt_f]
    refine round_exit (by omega) ?_
    show lpMemR [.i c, .i (g.N.length : Int), .s g.nm, .b g.dr, .l g.N, .l g.E, .l g.C, .l acc] = _
    simp only [lpMemR, Int.toNat_natCast, coll_end]
theorem m20 : Meets Try.prog 20 S20 (R 20) (F 20) := by
  refine meets_of_vt (pre := R) (Φ := F) mixed (sgAt_all (P := Try.prog) (pre := R) (Φ := F) (l := sg20) (List.forall_mem_cons.2 ⟨Meets.at (pre := R) (Φ := F) m10, List.forall_mem_cons.2 ⟨Meets.at (pre := R) (Φ := F) m44, (fun _ h => nomatch h)⟩⟩)) Try.func20 b20 n20 (loops_n 1 k20 fun k hk => match k, hk with | 0, _ => loop_this lf20_0 loopM20_0) e20 fun ds hf hq => ?_
  obtain ⟨g, ds', rfl, h5, _⟩ := fitsG hf.flat
  obtain ⟨x, rfl, hx⟩ := fits1 h5
  obtain ⟨c, rfl, _⟩ := wf_i64 hx
  by_cases h : validE g = 0 ∧ -1 ≤ c ∧ c < g.C.length
  · have hpre : prMemR [.i c, .i 0, .s g.nm, .b g.dr, .l g.N, .l g.E, .l g.C, .l []] := ⟨c, g, 0, [], rfl, by omega, valid_okV h.1, h.2.1, by simp⟩
    simp only [vt20, VT.ok, Nd.holds, X.outs, X.ds, X.d, Op1.ev, Op2.ev, takeD_zero, takeD_cons, List.cons_append, List.nil_append, List.getD_cons_zero, List.getD_cons_succ, D.int_i, D.bool_b, D.lst_l, ite_b, ite_or, Bool.false_eq_true, if_false, implies_true, true_and, and_true, F10, R10, F12000, R12000, F20, validD, gOf_eq, valid_c' h, memD, memR, if_pos h, cI, lpMemR, Int.toNat_zero, mems]
    exact fun _ => hpre
  · simp only [vt20, VT.ok, Nd.holds, X.outs, X.ds, X.d, Op1.ev, Op2.ev, takeD_zero, takeD_cons, List.cons_append, List.nil_append, List.getD_cons_zero, List.getD_cons_succ, D.int_i, D.bool_b, D.lst_l, ite_b, ite_or, if_true, implies_true, and_true, F10, R10, F12000, R12000, F20, validD, gOf_eq, valid_c h, memD, memR, if_neg h, cI]

/-! ### depths -/
theorem m21 : Meets Try.prog 21 S21 (R 21) (F 21) := by
  refine meets_of_vt (pre := R) (Φ := F) mixed (sgAt_all (P := Try.prog) (pre := R) (Φ := F) (l := sg21) (List.forall_mem_cons.2 ⟨Meets.at (pre := R) (Φ := F) m9, List.forall_mem_cons.2 ⟨Meets.at (pre := R) (Φ := F) m45, (fun _ h => nomatch h)⟩⟩)) Try.func21 b21 n21 (loops_n 0 k21 fun k hk => by omega) e21 fun ds hf hq => ?_
  obtain ⟨g, ds', rfl, h5, _⟩ := fitsG hf.flat
  obtain ⟨x, rfl, hx⟩ := fits1 h5
  obtain ⟨c, rfl, _⟩ := wf_i64 hx
  by_cases h : validE g = 0 ∧ -1 ≤ c ∧ c < g.C.length
  · have hat : atC g.C c := okV_at (valid_okV h.1) h.2.1 h.2.2
    simp only [vt21, VT.ok, Nd.holds, X.outs, X.ds, X.d, Op1.ev, Op2.ev, takeD_zero, takeD_cons, List.cons_append, List.nil_append, List.getD_cons_zero, List.getD_cons_succ, D.int_i, D.bool_b, D.lst_l, ite_b, ite_or, Bool.false_eq_true, if_false, implies_true, true_and, and_true, F45, R45, F9, R9, F21, validD, gOf_eq, valid_c' h, depED, depE, depthD, if_pos h, cI, cL]
    exact fun _ => hat
  · simp only [vt21, VT.ok, Nd.holds, X.outs, X.ds, X.d, Op1.ev, Op2.ev, takeD_zero, takeD_cons, List.cons_append, List.nil_append, List.getD_cons_zero, List.getD_cons_succ, D.int_i, D.bool_b, D.lst_l, ite_b, ite_or, if_true, implies_true, and_true, takeD1_0, F45, R45, F9, R9, F21, validD, gOf_eq, valid_c h, depED, depE, if_neg h, cI]
theorem m22 : Meets Try.prog 22 S22 (R 22) (F 22) := by
  refine meets_of_vt (pre := R) (Φ := F) mixed (sgAt_all (P := Try.prog) (pre := R) (Φ := F) (l := sg22) (List.forall_mem_cons.2 ⟨Meets.at (pre := R) (Φ := F) m10, List.forall_mem_cons.2 ⟨Meets.at (pre := R) (Φ := F) m46, (fun _ h => nomatch h)⟩⟩)) Try.func22 b22 n22 (loops_n 0 k22 fun k hk => by omega) e22 fun ds hf hq => ?_
  obtain ⟨g, ds', rfl, h5, _⟩ := fitsG hf.flat
  obtain ⟨x, rfl, hx⟩ := fits1 h5
  obtain ⟨c, rfl, _⟩ := wf_i64 hx
  by_cases h : validE g = 0 ∧ -1 ≤ c ∧ c < g.C.length
  · have hat : atC g.C c := okV_at (valid_okV h.1) h.2.1 h.2.2
    simp only [vt22, VT.ok, Nd.holds, X.outs, X.ds, X.d, Op1.ev, Op2.ev, takeD_zero, takeD_cons, List.cons_append, List.nil_append, List.getD_cons_zero, List.getD_cons_succ, D.int_i, D.bool_b, D.lst_l, ite_b, ite_or, Bool.false_eq_true, if_false, implies_true, true_and, and_true, F46, R46, F10, R10, F22, validD, gOf_eq, valid_c' h, depED, depE, depthD, if_pos h, cI, cL]
    exact fun _ => hat
  · simp only [vt22, VT.ok, Nd.holds, X.outs, X.ds, X.d, Op1.ev, Op2.ev, takeD_zero, takeD_cons, List.cons_append, List.nil_append, List.getD_cons_zero, List.getD_cons_succ, D.int_i, D.bool_b, D.lst_l, ite_b, ite_or, if_true, implies_true, and_true, takeD1_0, F46, R46, F10, R10, F22, validD, gOf_eq, valid_c h, depED, depE, if_neg h, cI]
end Go.Proofs.Ytjdhicmkkmfcgaa.rv
