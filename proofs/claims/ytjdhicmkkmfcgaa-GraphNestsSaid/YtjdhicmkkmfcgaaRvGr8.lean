/-
  Graphs: what is valid.
-/
import Derived.Test.YtjdhicmkkmfcgaaRvGr7
namespace Go.Proofs.Ytjdhicmkkmfcgaa.rv
open Go.RV

theorem edge7 (N : List (List D)) (x : List D) : edgeE N [x.getD 0 default, x.getD 1 default, x.getD 2 default, x.getD 3 default, x.getD 4 default, x.getD 5 default, x.getD 6 default] = edgeE N x := rfl
theorem edgeD7 (a b : D) (N : List (List D)) (c d : D) (x : List D) : edgeD [a, b, .l N, c, d, x.getD 0 default, x.getD 1 default, x.getD 2 default, x.getD 3 default, x.getD 4 default, x.getD 5 default, x.getD 6 default] = [.i (edgeE N x)] := rfl
theorem loopM9_0 : LoopMeets Try.prog F (R L9_0.key) L9_0 lb9_0 := by
  refine loop_meets (pre := R) mixed (sgAt_all (P := Try.prog) (pre := R) (Φ := F) (l := sg9) (List.forall_mem_cons.2 ⟨Meets.at (pre := R) (Φ := F) m27, List.forall_mem_cons.2 ⟨Meets.at (pre := R) (Φ := F) m28, List.forall_mem_cons.2 ⟨Meets.at (pre := R) (Φ := F) m29, List.forall_mem_cons.2 ⟨Meets.at (pre := R) (Φ := F) m30, (fun _ h => nomatch h)⟩⟩⟩⟩)) (loops_n 0 lk9_0 fun k hk => by omega) L9_0 (fun ρ => ((ρ.getD 1 default).int - (ρ.getD 2 default).int).toNat) le9_0 fun ρ _ hq => ?_
  obtain ⟨v, g, j, rfl, hj, hm⟩ : prV0 ρ := hq
  rw [maxLen_val] at hm
  by_cases hlt : j < g.N.length
  · have hN : nodeE g.N g.C j = 0 → RoundOk F (R L9_0.key) (fun ρ => ((ρ.getD 1 default).int - (ρ.getD 2 default).int).toNat) L9_0 [v, .i (g.N.length : Int), .i (j : Int), .s g.nm, .b g.dr, .l g.N, .l g.E, .l g.C] [.i (-1), v, .i ((j + 1 : Nat) : Int)] := fun h0 => by
      refine round_next ⟨⟨v, g, j + 1, rfl, by omega, hm⟩, ?_, ?_⟩
      · show ((g.N.length : Int) - ((j + 1 : Nat) : Int)).toNat < ((g.N.length : Int) - (j : Int)).toNat
        omega
      · show lpV0 [v, .i (g.N.length : Int), .i ((j + 1 : Nat) : Int), .s g.nm, .b g.dr, .l g.N, .l g.E, .l g.C] = lpV0 [v, .i (g.N.length : Int), .i (j : Int), .s g.nm, .b g.dr, .l g.N, .l g.E, .l g.C]
        simp only [lpV0, errLp, Int.toNat_natCast]
        exact scan_next hlt (by simp only [er, h0]; rfl)
    have hX : ∀ z : Int, nodeE g.N g.C j = z → z ≠ 0 → RoundOk F (R L9_0.key) (fun ρ => ((ρ.getD 1 default).int - (ρ.getD 2 default).int).toNat) L9_0 [v, .i (g.N.length : Int), .i (j : Int), .s g.nm, .b g.dr, .l g.N, .l g.E, .l g.C] [.i 0, .i z, .i (j : Int)] := fun z h0 hz => by
      refine round_exit (by omega) ?_
      show lpV0 [v, .i (g.N.length : Int), .i (j : Int), .s g.nm, .b g.dr, .l g.N, .l g.E, .l g.C] = _
      simp only [lpV0, errLp, Int.toNat_natCast]
      rw [← h0]
      exact scan_hit hlt (by simp only [er, h0]; simpa using hz)
    have hpre : prNode [.s g.nm, .b g.dr, .l g.N, .l g.E, .l g.C, .i (j : Int)] := ⟨j, rfl, hlt⟩
    simp (disch := omega) only [rt9_0, VT.ok, Nd.holds, X.outs, X.ds, X.d, Op1.ev, Op2.ev, takeD_zero, takeD_cons, List.cons_append, List.nil_append, List.getD_cons_zero, List.getD_cons_succ, D.int_i, D.bool_b, D.lst_l, Int.toNat_natCast, F28, R28, ↓reduceIte, dlt_t, w64', nodeD, cL, cI, Int.toNat_natCast]
    refine ⟨fun _ => hpre, ?_⟩
    by_cases h : nodeE g.N g.C j = 0
    · rw [if_neg (by exact bne_f h)]
      exact hN h
    · rw [if_pos (by exact bne_t h)]
      exact hX _ rfl h
  · have hj' : j = g.N.length := by omega
    subst hj'
    simp (disch := omega) only [rt9_0, VT.ok, X.ds, X.d, Op2.ev, List.getD_cons_zero, List.getD_cons_succ, D.int_i, D.bool_b, Bool.false_eq_true, ↓reduceIte, dlt_f]
    refine round_exit (by omega) ?_
    show lpV0 [v, .i (g.N.length : Int), .i (g.N.length : Int), .s g.nm, .b g.dr, .l g.N, .l g.E, .l g.C] = _
    simp only [lpV0, errLp, Int.toNat_natCast]
    exact scan_end
theorem loopM10_0 : LoopMeets Try.prog F (R L10_0.key) L10_0 lb10_0 := by
  refine loop_meets (pre := R) mixed (sgAt_all (P := Try.prog) (pre := R) (Φ := F) (l := sg10) (List.forall_mem_cons.2 ⟨Meets.at (pre := R) (Φ := F) m31, List.forall_mem_cons.2 ⟨Meets.at (pre := R) (Φ := F) m32, List.forall_mem_cons.2 ⟨Meets.at (pre := R) (Φ := F) m33, List.forall_mem_cons.2 ⟨Meets.at (pre := R) (Φ := F) m34, (fun _ h => nomatch h)⟩⟩⟩⟩)) (loops_n 0 lk10_0 fun k hk => by omega) L10_0 (fun ρ => (((ρ.getD 4 default).lst.length : Int) - (ρ.getD 1 default).int).toNat) le10_0 fun ρ _ hq => ?_
  obtain ⟨v, g, j, rfl, hj, hm⟩ : prW0 ρ := hq
  rw [maxLen_val] at hm
  by_cases hlt : j < g.N.length
  · have hN : nodeE g.N g.C j = 0 → RoundOk F (R L10_0.key) (fun ρ => (((ρ.getD 4 default).lst.length : Int) - (ρ.getD 1 default).int).toNat) L10_0 [v, .i (j : Int), .s g.nm, .b g.dr, .l g.N, .l g.E, .l g.C] [.i (-1), v, .i ((j + 1 : Nat) : Int)] := fun h0 => by
      refine round_next ⟨⟨v, g, j + 1, rfl, by omega, hm⟩, ?_, ?_⟩
      · show ((g.N.length : Int) - ((j + 1 : Nat) : Int)).toNat < ((g.N.length : Int) - (j : Int)).toNat
        omega
      · show lpW0 [v, .i ((j + 1 : Nat) : Int), .s g.nm, .b g.dr, .l g.N, .l g.E, .l g.C] = lpW0 [v, .i (j : Int), .s g.nm, .b g.dr, .l g.N, .l g.E, .l g.C]
        simp only [lpW0, errLp, Int.toNat_natCast]
        exact scan_next hlt (by simp only [er, h0]; rfl)
    have hX : ∀ z : Int, nodeE g.N g.C j = z → z ≠ 0 → RoundOk F (R L10_0.key) (fun ρ => (((ρ.getD 4 default).lst.length : Int) - (ρ.getD 1 default).int).toNat) L10_0 [v, .i (j : Int), .s g.nm, .b g.dr, .l g.N, .l g.E, .l g.C] [.i 0, .i z, .i (j : Int)] := fun z h0 hz => by
      refine round_exit (by omega) ?_
      show lpW0 [v, .i (j : Int), .s g.nm, .b g.dr, .l g.N, .l g.E, .l g.C] = _
      simp only [lpW0, errLp, Int.toNat_natCast]
      rw [← h0]
      exact scan_hit hlt (by simp only [er, h0]; simpa using hz)
    have hpre : prNode [.s g.nm, .b g.dr, .l g.N, .l g.E, .l g.C, .i (j : Int)] := ⟨j, rfl, hlt⟩
    simp (disch := omega) only [rt10_0, VT.ok, Nd.holds, X.outs, X.ds, X.d, Op1.ev, Op2.ev, takeD_zero, takeD_cons, List.cons_append, List.nil_append, List.getD_cons_zero, List.getD_cons_succ, D.int_i, D.bool_b, D.lst_l, Int.toNat_natCast, F32, R32, ↓reduceIte, dlt_t, w64', nodeD, cL, cI, Int.toNat_natCast]
    refine ⟨fun _ => hpre, ?_⟩
    by_cases h : nodeE g.N g.C j = 0
    · rw [if_neg (by exact bne_f h)]
      exact hN h
    · rw [if_pos (by exact bne_t h)]
      exact hX _ rfl h
  · have hj' : j = g.N.length := by omega
    subst hj'
    simp (disch := omega) only [rt10_0, VT.ok, X.ds, X.d, Op1.ev, Op2.ev, List.getD_cons_zero, List.getD_cons_succ, D.int_i, D.bool_b, D.lst_l, Bool.false_eq_true, ↓reduceIte, dlt_f]
    refine round_exit (by omega) ?_
    show lpW0 [v, .i (g.N.length : Int), .s g.nm, .b g.dr, .l g.N, .l g.E, .l g.C] = _
    simp only [lpW0, errLp, Int.toNat_natCast]
    exact scan_end
theorem loopM9_1 : LoopMeets Try.prog F (R L9_1.key) L9_1 lb9_1 := by
  refine loop_meets (pre := R) mixed (sgAt_all (P := Try.prog) (pre := R) (Φ := F) (l := sg9) (List.forall_mem_cons.2 ⟨Meets.at (pre := R) (Φ := F) m27, List.forall_mem_cons.2 ⟨Meets.at (pre := R) (Φ := F) m28, List.forall_mem_cons.2 ⟨Meets.at (pre := R) (Φ := F) m29, List.forall_mem_cons.2 ⟨Meets.at (pre := R) (Φ := F) m30, (fun _ h => nomatch h)⟩⟩⟩⟩)) (loops_n 0 lk9_1 fun k hk => by omega) L9_1 (fun ρ => ((ρ.getD 1 default).int - (ρ.getD 2 default).int).toNat) le9_1 fun ρ _ hq => ?_
  obtain ⟨v, g, j, rfl, hj, h16, hk⟩ : prV1 ρ := hq
  by_cases hlt : j < g.C.length
  · have hN : cluE g.N g.C j = 0 → RoundOk F (R L9_1.key) (fun ρ => ((ρ.getD 1 default).int - (ρ.getD 2 default).int).toNat) L9_1 [v, .i (g.C.length : Int), .i (j : Int), .s g.nm, .b g.dr, .l g.N, .l g.E, .l g.C] [.i (-1), v, .i ((j + 1 : Nat) : Int)] := fun h0 => by
      refine round_next ⟨⟨v, g, j + 1, rfl, by omega, h16, by intro k hk'; rcases Nat.lt_or_ge k j with e | e; exact hk k e; rw [show k = j by omega]; exact h0⟩, ?_, ?_⟩
      · show ((g.C.length : Int) - ((j + 1 : Nat) : Int)).toNat < ((g.C.length : Int) - (j : Int)).toNat
        omega
      · show lpV1 [v, .i (g.C.length : Int), .i ((j + 1 : Nat) : Int), .s g.nm, .b g.dr, .l g.N, .l g.E, .l g.C] = lpV1 [v, .i (g.C.length : Int), .i (j : Int), .s g.nm, .b g.dr, .l g.N, .l g.E, .l g.C]
        simp only [lpV1, errLp, Int.toNat_natCast]
        exact scan_next hlt (by simp only [er, h0]; rfl)
    have hX : ∀ z : Int, cluE g.N g.C j = z → z ≠ 0 → RoundOk F (R L9_1.key) (fun ρ => ((ρ.getD 1 default).int - (ρ.getD 2 default).int).toNat) L9_1 [v, .i (g.C.length : Int), .i (j : Int), .s g.nm, .b g.dr, .l g.N, .l g.E, .l g.C] [.i 0, .i z, .i (j : Int)] := fun z h0 hz => by
      refine round_exit (by omega) ?_
      show lpV1 [v, .i (g.C.length : Int), .i (j : Int), .s g.nm, .b g.dr, .l g.N, .l g.E, .l g.C] = _
      simp only [lpV1, errLp, Int.toNat_natCast]
      rw [← h0]
      exact scan_hit hlt (by simp only [er, h0]; simpa using hz)
    have hpre : prClu [.s g.nm, .b g.dr, .l g.N, .l g.E, .l g.C, .i (j : Int)] := ⟨j, rfl, hlt, h16, okC_of hk⟩
    simp (disch := omega) only [rt9_1, VT.ok, Nd.holds, X.outs, X.ds, X.d, Op1.ev, Op2.ev, takeD_zero, takeD_cons, List.cons_append, List.nil_append, List.getD_cons_zero, List.getD_cons_succ, D.int_i, D.bool_b, D.lst_l, Int.toNat_natCast, F29, R29, ↓reduceIte, dlt_t, w64', cluD, cL, cI, Int.toNat_natCast]
    refine ⟨fun _ => hpre, ?_⟩
    by_cases h : cluE g.N g.C j = 0
    · rw [if_neg (by exact bne_f h)]
      exact hN h
    · rw [if_pos (by exact bne_t h)]
      exact hX _ rfl h
  · have hj' : j = g.C.length := by omega
    subst hj'
    simp (disch := omega) only [rt9_1, VT.ok, X.ds, X.d, Op2.ev, List.getD_cons_zero, List.getD_cons_succ, D.int_i, D.bool_b, Bool.false_eq_true, ↓reduceIte, dlt_f]
    refine round_exit (by omega) ?_
    show lpV1 [v, .i (g.C.length : Int), .i (g.C.length : Int), .s g.nm, .b g.dr, .l g.N, .l g.E, .l g.C] = _
    simp only [lpV1, errLp, Int.toNat_natCast]
    exact scan_end
theorem loopM10_1 : LoopMeets Try.prog F (R L10_1.key) L10_1 lb10_1 := by
  refine loop_meets (pre := R) mixed (sgAt_all (P := Try.prog) (pre := R) (Φ := F) (l := sg10) (List.forall_mem_cons.2 ⟨Meets.at (pre := R) (Φ := F) m31, List.forall_mem_cons.2 ⟨Meets.at (pre := R) (Φ := F) m32, List.forall_mem_cons.2 ⟨Meets.at (pre := R) (Φ := F) m33, List.forall_mem_cons.2 ⟨Meets.at (pre := R) (Φ := F) m34, (fun _ h => nomatch h)⟩⟩⟩⟩)) (loops_n 0 lk10_1 fun k hk => by omega) L10_1 (fun ρ => (((ρ.getD 6 default).lst.length : Int) - (ρ.getD 1 default).int).toNat) le10_1 fun ρ _ hq => ?_
  obtain ⟨v, g, j, rfl, hj, h16, hk⟩ : prW1 ρ := hq
  by_cases hlt : j < g.C.length
  · have hN : cluE g.N g.C j = 0 → RoundOk F (R L10_1.key) (fun ρ => (((ρ.getD 6 default).lst.length : Int) - (ρ.getD 1 default).int).toNat) L10_1 [v, .i (j : Int), .s g.nm, .b g.dr, .l g.N, .l g.E, .l g.C] [.i (-1), v, .i ((j + 1 : Nat) : Int)] := fun h0 => by
      refine round_next ⟨⟨v, g, j + 1, rfl, by omega, h16, by intro k hk'; rcases Nat.lt_or_ge k j with e | e; exact hk k e; rw [show k = j by omega]; exact h0⟩, ?_, ?_⟩
      · show ((g.C.length : Int) - ((j + 1 : Nat) : Int)).toNat < ((g.C.length : Int) - (j : Int)).toNat
        omega
      · show lpW1 [v, .i ((j + 1 : Nat) : Int), .s g.nm, .b g.dr, .l g.N, .l g.E, .l g.C] = lpW1 [v, .i (j : Int), .s g.nm, .b g.dr, .l g.N, .l g.E, .l g.C]
        simp only [lpW1, errLp, Int.toNat_natCast]
        exact scan_next hlt (by simp only [er, h0]; rfl)
    have hX : ∀ z : Int, cluE g.N g.C j = z → z ≠ 0 → RoundOk F (R L10_1.key) (fun ρ => (((ρ.getD 6 default).lst.length : Int) - (ρ.getD 1 default).int).toNat) L10_1 [v, .i (j : Int), .s g.nm, .b g.dr, .l g.N, .l g.E, .l g.C] [.i 0, .i z, .i (j : Int)] := fun z h0 hz => by
      refine round_exit (by omega) ?_
      show lpW1 [v, .i (j : Int), .s g.nm, .b g.dr, .l g.N, .l g.E, .l g.C] = _
      simp only [lpW1, errLp, Int.toNat_natCast]
      rw [← h0]
      exact scan_hit hlt (by simp only [er, h0]; simpa using hz)
    have hpre : prClu [.s g.nm, .b g.dr, .l g.N, .l g.E, .l g.C, .i (j : Int)] := ⟨j, rfl, hlt, h16, okC_of hk⟩
    simp (disch := omega) only [rt10_1, VT.ok, Nd.holds, X.outs, X.ds, X.d, Op1.ev, Op2.ev, takeD_zero, takeD_cons, List.cons_append, List.nil_append, List.getD_cons_zero, List.getD_cons_succ, D.int_i, D.bool_b, D.lst_l, Int.toNat_natCast, F33, R33, ↓reduceIte, dlt_t, w64', cluD, cL, cI, Int.toNat_natCast]
    refine ⟨fun _ => hpre, ?_⟩
    by_cases h : cluE g.N g.C j = 0
    · rw [if_neg (by exact bne_f h)]
      exact hN h
    · rw [if_pos (by exact bne_t h)]
      exact hX _ rfl h
  · have hj' : j = g.C.length := by omega
    subst hj'
    simp (disch := omega) only [rt10_1, VT.ok, X.ds, X.d, Op1.ev, Op2.ev, List.getD_cons_zero, List.getD_cons_succ, D.int_i, D.bool_b, D.lst_l, Bool.false_eq_true, ↓reduceIte, dlt_f]
    refine round_exit (by omega) ?_
    show lpW1 [v, .i (g.C.length : Int), .s g.nm, .b g.dr, .l g.N, .l g.E, .l g.C] = _
    simp only [lpW1, errLp, Int.toNat_natCast]
    exact scan_end
theorem loopM9_2 : LoopMeets Try.prog F (R L9_2.key) L9_2 lb9_2 := by
  refine loop_meets (pre := R) mixed (sgAt_all (P := Try.prog) (pre := R) (Φ := F) (l := sg9) (List.forall_mem_cons.2 ⟨Meets.at (pre := R) (Φ := F) m27, List.forall_mem_cons.2 ⟨Meets.at (pre := R) (Φ := F) m28, List.forall_mem_cons.2 ⟨Meets.at (pre := R) (Φ := F) m29, List.forall_mem_cons.2 ⟨Meets.at (pre := R) (Φ := F) m30, (fun _ h => nomatch h)⟩⟩⟩⟩)) (loops_n 0 lk9_2 fun k hk => by omega) L9_2 (fun ρ => ((ρ.getD 2 default).int - (ρ.getD 3 default).int).toNat) le9_2 fun ρ _ hq => ?_
  obtain ⟨v, g, j, rfl, hj, hm⟩ : prV2 ρ := hq
  rw [maxLen_val] at hm
  by_cases hlt : j < g.E.length
  · have hN : edgeE g.N (el g.E j) = 0 → RoundOk F (R L9_2.key) (fun ρ => ((ρ.getD 2 default).int - (ρ.getD 3 default).int).toNat) L9_2 [v, .l g.E, .i (g.E.length : Int), .i (j : Int), .s g.nm, .b g.dr, .l g.N, .l g.E, .l g.C] [.i (-1), v, .i ((j + 1 : Nat) : Int)] := fun h0 => by
      refine round_next ⟨⟨v, g, j + 1, rfl, by omega, hm⟩, ?_, ?_⟩
      · show ((g.E.length : Int) - ((j + 1 : Nat) : Int)).toNat < ((g.E.length : Int) - (j : Int)).toNat
        omega
      · show lpV2 [v, .l g.E, .i (g.E.length : Int), .i ((j + 1 : Nat) : Int), .s g.nm, .b g.dr, .l g.N, .l g.E, .l g.C] = lpV2 [v, .l g.E, .i (g.E.length : Int), .i (j : Int), .s g.nm, .b g.dr, .l g.N, .l g.E, .l g.C]
        simp only [lpV2, errLp, Int.toNat_natCast]
        exact scan_next hlt (by simp only [er, h0]; rfl)
    have hX : ∀ z : Int, edgeE g.N (el g.E j) = z → z ≠ 0 → RoundOk F (R L9_2.key) (fun ρ => ((ρ.getD 2 default).int - (ρ.getD 3 default).int).toNat) L9_2 [v, .l g.E, .i (g.E.length : Int), .i (j : Int), .s g.nm, .b g.dr, .l g.N, .l g.E, .l g.C] [.i 0, .i z, .i (j : Int)] := fun z h0 hz => by
      refine round_exit (by omega) ?_
      show lpV2 [v, .l g.E, .i (g.E.length : Int), .i (j : Int), .s g.nm, .b g.dr, .l g.N, .l g.E, .l g.C] = _
      simp only [lpV2, errLp, Int.toNat_natCast]
      rw [← h0]
      exact scan_hit hlt (by simp only [er, h0]; simpa using hz)
    simp (disch := omega) only [rt9_2, VT.ok, Nd.holds, X.outs, X.ds, X.d, Op1.ev, Op2.ev, takeD_zero, takeD_cons, List.cons_append, List.nil_append, List.getD_cons_zero, List.getD_cons_succ, D.int_i, D.bool_b, D.lst_l, Int.toNat_natCast, implies_true, true_and, F30, R30, ↓reduceIte, dle_t, dlt_t, w64', edgeD7, Int.toNat_natCast]
    by_cases h : edgeE g.N (el g.E j) = 0
    · rw [if_neg (by exact bne_f h)]
      exact hN h
    · rw [if_pos (by exact bne_t h)]
      exact hX _ rfl h
  · have hj' : j = g.E.length := by omega
    subst hj'
    simp (disch := omega) only [rt9_2, VT.ok, X.ds, X.d, Op2.ev, List.getD_cons_zero, List.getD_cons_succ, D.int_i, D.bool_b, Bool.false_eq_true, ↓reduceIte, dlt_f]
    refine round_exit (by omega) ?_
    show lpV2 [v, .l g.E, .i (g.E.length : Int), .i (g.E.length : Int), .s g.nm, .b g.dr, .l g.N, .l g.E, .l g.C] = _
    simp only [lpV2, errLp, Int.toNat_natCast]
    exact scan_end
theorem loopM10_2 : LoopMeets Try.prog F (R L10_2.key) L10_2 lb10_2 := by
  refine loop_meets (pre := R) mixed (sgAt_all (P := Try.prog) (pre := R) (Φ := F) (l := sg10) (List.forall_mem_cons.2 ⟨Meets.at (pre := R) (Φ := F) m31, List.forall_mem_cons.2 ⟨Meets.at (pre := R) (Φ := F) m32, List.forall_mem_cons.2 ⟨Meets.at (pre := R) (Φ := F) m33, List.forall_mem_cons.2 ⟨Meets.at (pre := R) (Φ := F) m34, (fun _ h => nomatch h)⟩⟩⟩⟩)) (loops_n 0 lk10_2 fun k hk => by omega) L10_2 (fun ρ => (((ρ.getD 5 default).lst.length : Int) - (ρ.getD 1 default).int).toNat) le10_2 fun ρ _ hq => ?_
  obtain ⟨v, g, j, rfl, hj, hm⟩ : prW2 ρ := hq
  rw [maxLen_val] at hm
  by_cases hlt : j < g.E.length
  · have hN : edgeE g.N (el g.E j) = 0 → RoundOk F (R L10_2.key) (fun ρ => (((ρ.getD 5 default).lst.length : Int) - (ρ.getD 1 default).int).toNat) L10_2 [v, .i (j : Int), .s g.nm, .b g.dr, .l g.N, .l g.E, .l g.C] [.i (-1), v, .i ((j + 1 : Nat) : Int)] := fun h0 => by
      refine round_next ⟨⟨v, g, j + 1, rfl, by omega, hm⟩, ?_, ?_⟩
      · show ((g.E.length : Int) - ((j + 1 : Nat) : Int)).toNat < ((g.E.length : Int) - (j : Int)).toNat
        omega
      · show lpW2 [v, .i ((j + 1 : Nat) : Int), .s g.nm, .b g.dr, .l g.N, .l g.E, .l g.C] = lpW2 [v, .i (j : Int), .s g.nm, .b g.dr, .l g.N, .l g.E, .l g.C]
        simp only [lpW2, errLp, Int.toNat_natCast]
        exact scan_next hlt (by simp only [er, h0]; rfl)
    have hX : ∀ z : Int, edgeE g.N (el g.E j) = z → z ≠ 0 → RoundOk F (R L10_2.key) (fun ρ => (((ρ.getD 5 default).lst.length : Int) - (ρ.getD 1 default).int).toNat) L10_2 [v, .i (j : Int), .s g.nm, .b g.dr, .l g.N, .l g.E, .l g.C] [.i 0, .i z, .i (j : Int)] := fun z h0 hz => by
      refine round_exit (by omega) ?_
      show lpW2 [v, .i (j : Int), .s g.nm, .b g.dr, .l g.N, .l g.E, .l g.C] = _
      simp only [lpW2, errLp, Int.toNat_natCast]
      rw [← h0]
      exact scan_hit hlt (by simp only [er, h0]; simpa using hz)
    simp (disch := omega) only [rt10_2, VT.ok, Nd.holds, X.outs, X.ds, X.d, Op1.ev, Op2.ev, takeD_zero, takeD_cons, List.cons_append, List.nil_append, List.getD_cons_zero, List.getD_cons_succ, D.int_i, D.bool_b, D.lst_l, Int.toNat_natCast, implies_true, true_and, F34, R34, ↓reduceIte, dle_t, dlt_t, w64', edgeD7, Int.toNat_natCast]
    by_cases h : edgeE g.N (el g.E j) = 0
    · rw [if_neg (by exact bne_f h)]
      exact hN h
    · rw [if_pos (by exact bne_t h)]
      exact hX _ rfl h
  · have hj' : j = g.E.length := by omega
    subst hj'
    simp (disch := omega) only [rt10_2, VT.ok, X.ds, X.d, Op1.ev, Op2.ev, List.getD_cons_zero, List.getD_cons_succ, D.int_i, D.bool_b, D.lst_l, Bool.false_eq_true, ↓reduceIte, dlt_f]
    refine round_exit (by omega) ?_
    show lpW2 [v, .i (g.E.length : Int), .s g.nm, .b g.dr, .l g.N, .l g.E, .l g.C] = _
    simp only [lpW2, errLp, Int.toNat_natCast]
    exact scan_end
theorem m9 : Meets Try.prog 9 S9 (R 9) (F 9) := by
  refine meets_of_vt (pre := R) (Φ := F) mixed (sgAt_all (P := Try.prog) (pre := R) (Φ := F) (l := sg9) (List.forall_mem_cons.2 ⟨Meets.at (pre := R) (Φ := F) m27, List.forall_mem_cons.2 ⟨Meets.at (pre := R) (Φ := F) m28, List.forall_mem_cons.2 ⟨Meets.at (pre := R) (Φ := F) m29, List.forall_mem_cons.2 ⟨Meets.at (pre := R) (Φ := F) m30, (fun _ h => nomatch h)⟩⟩⟩⟩)) Try.func9 b9 n9 (loops_n 3 k9 fun k hk => match k, hk with | 0, _ => loop_this lf9_0 loopM9_0 | 1, _ => loop_this lf9_1 loopM9_1 | 2, _ => loop_this lf9_2 loopM9_2) e9 fun ds hf hq => ?_
  obtain ⟨g, ds', rfl, h5, hnm, ⟨hmN, _⟩, ⟨hmE, _⟩, ⟨hmC, _⟩⟩ := fitsG hf.flat
  have e0 := fits0 h5
  subst e0
  have hF : F 9 [.s g.nm, .b g.dr, .l g.N, .l g.E, .l g.C] = [.i (validE g)] := rfl
  rw [hF]
  generalize hv : validE g = res
  unfold validE at hv
  by_cases h0 : 64 < (g.N.length : Int) ∨ 256 < (g.E.length : Int) ∨ 16 < (g.C.length : Int)
  · rw [if_pos h0] at hv
    have hc : ((decide (64 < (g.N.length : Int)) || decide (256 < (g.E.length : Int))) || decide (16 < (g.C.length : Int))) = true := by
      simp only [Bool.or_eq_true, decide_eq_true_eq]
      omega
    simp only [vt9, VT.ok, Nd.holds, X.outs, X.ds, X.d, Op1.ev, Op2.ev, List.cons_append, List.nil_append, List.getD_cons_zero, List.getD_cons_succ, D.int_i, D.bool_b, D.lst_l, ite_b, ite_or, if_true, takeD1_0, hc]
    rw [hv]
  · rw [if_neg h0] at hv
    have p0 : prV0 [.i 0, .i (g.N.length : Int), .i 0, .s g.nm, .b g.dr, .l g.N, .l g.E, .l g.C] := ⟨_, g, 0, rfl, by omega, hmN⟩
    have p1 : ∀ v, prV1 [v, .i (g.C.length : Int), .i 0, .s g.nm, .b g.dr, .l g.N, .l g.E, .l g.C] := fun v => ⟨_, g, 0, rfl, by omega, by omega, fun k hk => by omega⟩
    have p2 : ∀ v, prV2 [v, .l g.E, .i (g.E.length : Int), .i 0, .s g.nm, .b g.dr, .l g.N, .l g.E, .l g.C] := fun v => ⟨_, g, 0, rfl, by omega, hmE⟩
    simp (disch := omega) only [vt9, VT.ok, Nd.holds, X.outs, X.ds, X.d, Op1.ev, Op2.ev, takeD_zero, takeD_cons, List.cons_append, List.nil_append, List.getD_cons_zero, List.getD_cons_succ, D.int_i, D.bool_b, D.lst_l, D.str_s, Bool.false_eq_true, implies_true, true_and, F27, R27, F10900, R10900, F10901, R10901, F10902, R10902, ↓reduceIte, dlt_f, nameD, cS, lpV0, lpV1, lpV2, Int.toNat_zero]
    cases h1 : isName g.nm
    · rw [h1] at hv
      simp only [Bool.not_false, if_true]
      rw [← hv]; rfl
    · rw [h1] at hv
      simp only [if_true, Bool.not_true, Bool.false_eq_true, if_false] at hv ⊢
      refine ⟨fun _ => p0, ?_⟩
      rcases errLp_two (nodeE g.N g.C) (.i 0) g.N.length with ⟨h2, h3⟩ | ⟨h2, _, h3⟩
      · rw [if_neg h2] at hv
        simp only [h3, takeD_zero, takeD_cons, List.getD_cons_zero, List.getD_cons_succ, D.int_i, ↓reduceIte, beq_t]
        rw [hv]
      · rw [if_pos h2] at hv
        simp only [h3, takeD_zero, takeD_cons, List.cons_append, List.nil_append, List.getD_cons_zero, List.getD_cons_succ, D.int_i]
        rw [if_neg (by decide)]
        refine ⟨fun _ => p1 _, ?_⟩
        rcases errLp_two (cluE g.N g.C) (.i 0) g.C.length with ⟨h4, h5⟩ | ⟨h4, _, h5⟩
        · rw [if_neg h4] at hv
          simp only [h5, takeD_zero, takeD_cons, List.cons_append, List.nil_append, List.getD_cons_zero, List.getD_cons_succ, D.int_i]
          rw [if_pos (by rfl), hv]
        · rw [if_pos h4] at hv
          simp only [h5, takeD_zero, takeD_cons, List.cons_append, List.nil_append, List.getD_cons_zero, List.getD_cons_succ, D.int_i]
          rw [if_neg (by decide)]
          refine ⟨fun _ => p2 _, ?_⟩
          rcases errLp_two (fun j => edgeE g.N (el g.E j)) (.i 0) g.E.length with ⟨h6, h7⟩ | ⟨h6, _, h7⟩
          · simp only [h7, takeD_zero, takeD_cons, List.getD_cons_zero, List.getD_cons_succ, D.int_i]
            rw [if_pos (by rfl), hv]
          · simp only [h7, takeD_zero, takeD_cons, List.getD_cons_zero, List.getD_cons_succ, D.int_i]
            rw [if_neg (by decide), ← hv, h6]
theorem m10 : Meets Try.prog 10 S10 (R 10) (F 10) := by
  refine meets_of_vt (pre := R) (Φ := F) mixed (sgAt_all (P := Try.prog) (pre := R) (Φ := F) (l := sg10) (List.forall_mem_cons.2 ⟨Meets.at (pre := R) (Φ := F) m31, List.forall_mem_cons.2 ⟨Meets.at (pre := R) (Φ := F) m32, List.forall_mem_cons.2 ⟨Meets.at (pre := R) (Φ := F) m33, List.forall_mem_cons.2 ⟨Meets.at (pre := R) (Φ := F) m34, (fun _ h => nomatch h)⟩⟩⟩⟩)) Try.func10 b10 n10 (loops_n 3 k10 fun k hk => match k, hk with | 0, _ => loop_this lf10_0 loopM10_0 | 1, _ => loop_this lf10_1 loopM10_1 | 2, _ => loop_this lf10_2 loopM10_2) e10 fun ds hf hq => ?_
  obtain ⟨g, ds', rfl, h5, hnm, ⟨hmN, _⟩, ⟨hmE, _⟩, ⟨hmC, _⟩⟩ := fitsG hf.flat
  have e0 := fits0 h5
  subst e0
  have hF : F 10 [.s g.nm, .b g.dr, .l g.N, .l g.E, .l g.C] = [.i (validE g)] := rfl
  rw [hF]
  generalize hv : validE g = res
  unfold validE at hv
  by_cases h0 : 64 < (g.N.length : Int) ∨ 256 < (g.E.length : Int) ∨ 16 < (g.C.length : Int)
  · rw [if_pos h0] at hv
    have hc : ((decide (64 < (g.N.length : Int)) || decide (256 < (g.E.length : Int))) || decide (16 < (g.C.length : Int))) = true := by
      simp only [Bool.or_eq_true, decide_eq_true_eq]
      omega
    simp only [vt10, VT.ok, Nd.holds, X.outs, X.ds, X.d, Op1.ev, Op2.ev, List.cons_append, List.nil_append, List.getD_cons_zero, List.getD_cons_succ, D.int_i, D.bool_b, D.lst_l, ite_b, ite_or, if_true, takeD1_0, hc]
    rw [hv]
  · rw [if_neg h0] at hv
    have p0 : prW0 [.i 0, .i 0, .s g.nm, .b g.dr, .l g.N, .l g.E, .l g.C] := ⟨_, g, 0, rfl, by omega, hmN⟩
    have p1 : ∀ v, prW1 [v, .i 0, .s g.nm, .b g.dr, .l g.N, .l g.E, .l g.C] := fun v => ⟨_, g, 0, rfl, by omega, by omega, fun k hk => by omega⟩
    have p2 : ∀ v, prW2 [v, .i 0, .s g.nm, .b g.dr, .l g.N, .l g.E, .l g.C] := fun v => ⟨_, g, 0, rfl, by omega, hmE⟩
    simp (disch := omega) only [vt10, VT.ok, Nd.holds, X.outs, X.ds, X.d, Op1.ev, Op2.ev, takeD_zero, takeD_cons, List.cons_append, List.nil_append, List.getD_cons_zero, List.getD_cons_succ, D.int_i, D.bool_b, D.lst_l, D.str_s, Bool.false_eq_true, implies_true, true_and, F31, R31, F11000, R11000, F11001, R11001, F11002, R11002, ↓reduceIte, dlt_f, nameD, cS, lpW0, lpW1, lpW2, Int.toNat_zero]
    cases h1 : isName g.nm
    · rw [h1] at hv
      simp only [Bool.not_false, if_true]
      rw [← hv]; rfl
    · rw [h1] at hv
      simp only [if_true, Bool.not_true, Bool.false_eq_true, if_false] at hv ⊢
      refine ⟨fun _ => p0, ?_⟩
      rcases errLp_two (nodeE g.N g.C) (.i 0) g.N.length with ⟨h2, h3⟩ | ⟨h2, _, h3⟩
      · rw [if_neg h2] at hv
        simp only [h3, takeD_zero, takeD_cons, List.getD_cons_zero, List.getD_cons_succ, D.int_i, ↓reduceIte, beq_t]
        rw [hv]
      · rw [if_pos h2] at hv
        simp only [h3, takeD_zero, takeD_cons, List.cons_append, List.nil_append, List.getD_cons_zero, List.getD_cons_succ, D.int_i]
        rw [if_neg (by decide)]
        refine ⟨fun _ => p1 _, ?_⟩
        rcases errLp_two (cluE g.N g.C) (.i 0) g.C.length with ⟨h4, h5⟩ | ⟨h4, _, h5⟩
        · rw [if_neg h4] at hv
          simp only [h5, takeD_zero, takeD_cons, List.cons_append, List.nil_append, List.getD_cons_zero, List.getD_cons_succ, D.int_i]
          rw [if_pos (by rfl), hv]
        · rw [if_pos h4] at hv
          simp only [h5, takeD_zero, takeD_cons, List.cons_append, List.nil_append, List.getD_cons_zero, List.getD_cons_succ, D.int_i]
          rw [if_neg (by decide)]
          refine ⟨fun _ => p2 _, ?_⟩
          rcases errLp_two (fun j => edgeE g.N (el g.E j)) (.i 0) g.E.length with ⟨h6, h7⟩ | ⟨h6, _, h7⟩
          · simp only [h7, takeD_zero, takeD_cons, List.getD_cons_zero, List.getD_cons_succ, D.int_i]
            rw [if_pos (by rfl), hv]
          · simp only [h7, takeD_zero, takeD_cons, List.getD_cons_zero, List.getD_cons_succ, D.int_i]
            rw [if_neg (by decide), ← hv, h6]
end Go.Proofs.Ytjdhicmkkmfcgaa.rv
