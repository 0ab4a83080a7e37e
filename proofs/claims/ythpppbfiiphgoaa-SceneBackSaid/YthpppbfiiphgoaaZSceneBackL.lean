/-
  Graphs: what is valid.; Graphs: members, depths, common clusters.; Few items, equal scenes: the walks.; Moved scenes: the walks.; Clusters by depth: the sort of Go's library on short lists.; Scenes of drawings: the loops.; Scenes of drawings: the walks; the chapter's examples.; Chapter 53: SceneBack.
-/
import Derived.Test.YthpppbfiiphgoaaZSceneBackK
namespace Go.Proofs.Ythpppbfiiphgoaa.rv
set_option maxRecDepth 10000
open Go.RV
theorem edgeD7 (a b : D) (N : List (List D)) (c d : D) (x : List D) : edgeD [a, b, .l N, c, d, x.getD 0 default, x.getD 1 default, x.getD 2 default, x.getD 3 default, x.getD 4 default, x.getD 5 default, x.getD 6 default] = [.i (edgeE N x)] := rfl
theorem loopM30_0 : LoopMeets Try.prog F (R L30_0.key) L30_0 lb30_0 := by
  refine loop_meets (pre := R) mixed (sgAt_all (P := Try.prog) (pre := R) (Φ := F) (l := sg30) (List.forall_mem_cons.2 ⟨Meets.at (pre := R) (Φ := F) m47, List.forall_mem_cons.2 ⟨Meets.at (pre := R) (Φ := F) m48, List.forall_mem_cons.2 ⟨Meets.at (pre := R) (Φ := F) m49, List.forall_mem_cons.2 ⟨Meets.at (pre := R) (Φ := F) m50, (fun _ h => nomatch h)⟩⟩⟩⟩)) (loops_n 0 lk30_0 fun k hk => by omega) L30_0 (fun ρ => ((ρ.getD 1 default).int - (ρ.getD 2 default).int).toNat) le30_0 fun ρ _ hq => ?_
  obtain ⟨v, g, j, rfl, hj, hm⟩ : prV0 ρ := hq
  rw [maxLen_val] at hm
  by_cases hlt : j < g.N.length
  · have hN : nodeE g.N g.C j = 0 → RoundOk F (R L30_0.key) (fun ρ => ((ρ.getD 1 default).int - (ρ.getD 2 default).int).toNat) L30_0 [v, .i (g.N.length : Int), .i (j : Int), .s g.nm, .b g.dr, .l g.N, .l g.E, .l g.C] [.i (-1), v, .i ((j + 1 : Nat) : Int)] := fun h0 => by
      refine round_next ⟨⟨v, g, j + 1, rfl, by omega, hm⟩, ?_, ?_⟩
      · show ((g.N.length : Int) - ((j + 1 : Nat) : Int)).toNat < ((g.N.length : Int) - (j : Int)).toNat
        omega
      · show lpV0 [v, .i (g.N.length : Int), .i ((j + 1 : Nat) : Int), .s g.nm, .b g.dr, .l g.N, .l g.E, .l g.C] = lpV0 [v, .i (g.N.length : Int), .i (j : Int), .s g.nm, .b g.dr, .l g.N, .l g.E, .l g.C]
        simp only [lpV0, errLp, Int.toNat_natCast]
        exact scan_next hlt (by simp only [er, h0]; rfl)
    have hX : ∀ z : Int, nodeE g.N g.C j = z → z ≠ 0 → RoundOk F (R L30_0.key) (fun ρ => ((ρ.getD 1 default).int - (ρ.getD 2 default).int).toNat) L30_0 [v, .i (g.N.length : Int), .i (j : Int), .s g.nm, .b g.dr, .l g.N, .l g.E, .l g.C] [.i 0, .i z, .i (j : Int)] := fun z h0 hz => by
      refine round_exit (by omega) ?_
      show lpV0 [v, .i (g.N.length : Int), .i (j : Int), .s g.nm, .b g.dr, .l g.N, .l g.E, .l g.C] = _
      simp only [lpV0, errLp, Int.toNat_natCast]
      rw [← h0]
      exact scan_hit hlt (by simp only [er, h0]; simpa using hz)
    have hpre : prNode [.s g.nm, .b g.dr, .l g.N, .l g.E, .l g.C, .i (j : Int)] := ⟨j, rfl, hlt⟩
    simp (disch := omega) only [rt30_0, VT.ok, Nd.holds, X.outs, X.ds, X.d, Op1.ev, Op2.ev, takeD_zero, takeD_cons, List.cons_append, List.nil_append, List.getD_cons_zero, List.getD_cons_succ, D.int_i, D.bool_b, D.lst_l, Int.toNat_natCast, F48, R48, ↓reduceIte, dlt_t, w64', nodeD, cL, cI, Int.toNat_natCast]
    refine ⟨fun _ => hpre, ?_⟩
    by_cases h : nodeE g.N g.C j = 0
    · rw [if_neg (by exact bne_f h)]
      exact hN h
    · rw [if_pos (by exact bne_t h)]
      exact hX _ rfl h
  · have hj' : j = g.N.length := by omega
    subst hj'
    simp (disch := omega) only [rt30_0, VT.ok, X.ds, X.d, Op2.ev, List.getD_cons_zero, List.getD_cons_succ, D.int_i, D.bool_b, Bool.false_eq_true, ↓reduceIte, dlt_f]
    refine round_exit (by omega) ?_
    show lpV0 [v, .i (g.N.length : Int), .i (g.N.length : Int), .s g.nm, .b g.dr, .l g.N, .l g.E, .l g.C] = _
    simp only [lpV0, errLp, Int.toNat_natCast]
    exact scan_end
theorem loopM30_1 : LoopMeets Try.prog F (R L30_1.key) L30_1 lb30_1 := by
  refine loop_meets (pre := R) mixed (sgAt_all (P := Try.prog) (pre := R) (Φ := F) (l := sg30) (List.forall_mem_cons.2 ⟨Meets.at (pre := R) (Φ := F) m47, List.forall_mem_cons.2 ⟨Meets.at (pre := R) (Φ := F) m48, List.forall_mem_cons.2 ⟨Meets.at (pre := R) (Φ := F) m49, List.forall_mem_cons.2 ⟨Meets.at (pre := R) (Φ := F) m50, (fun _ h => nomatch h)⟩⟩⟩⟩)) (loops_n 0 lk30_1 fun k hk => by omega) L30_1 (fun ρ => ((ρ.getD 1 default).int - (ρ.getD 2 default).int).toNat) le30_1 fun ρ _ hq => ?_
  obtain ⟨v, g, j, rfl, hj, h16, hk⟩ : prV1 ρ := hq
  by_cases hlt : j < g.C.length
  · have hN : cluE g.N g.C j = 0 → RoundOk F (R L30_1.key) (fun ρ => ((ρ.getD 1 default).int - (ρ.getD 2 default).int).toNat) L30_1 [v, .i (g.C.length : Int), .i (j : Int), .s g.nm, .b g.dr, .l g.N, .l g.E, .l g.C] [.i (-1), v, .i ((j + 1 : Nat) : Int)] := fun h0 => by
      refine round_next ⟨⟨v, g, j + 1, rfl, by omega, h16, by intro k hk'; rcases Nat.lt_or_ge k j with e | e; exact hk k e; rw [show k = j by omega]; exact h0⟩, ?_, ?_⟩
      · show ((g.C.length : Int) - ((j + 1 : Nat) : Int)).toNat < ((g.C.length : Int) - (j : Int)).toNat
        omega
      · show lpV1 [v, .i (g.C.length : Int), .i ((j + 1 : Nat) : Int), .s g.nm, .b g.dr, .l g.N, .l g.E, .l g.C] = lpV1 [v, .i (g.C.length : Int), .i (j : Int), .s g.nm, .b g.dr, .l g.N, .l g.E, .l g.C]
        simp only [lpV1, errLp, Int.toNat_natCast]
        exact scan_next hlt (by simp only [er, h0]; rfl)
    have hX : ∀ z : Int, cluE g.N g.C j = z → z ≠ 0 → RoundOk F (R L30_1.key) (fun ρ => ((ρ.getD 1 default).int - (ρ.getD 2 default).int).toNat) L30_1 [v, .i (g.C.length : Int), .i (j : Int), .s g.nm, .b g.dr, .l g.N, .l g.E, .l g.C] [.i 0, .i z, .i (j : Int)] := fun z h0 hz => by
      refine round_exit (by omega) ?_
      show lpV1 [v, .i (g.C.length : Int), .i (j : Int), .s g.nm, .b g.dr, .l g.N, .l g.E, .l g.C] = _
      simp only [lpV1, errLp, Int.toNat_natCast]
      rw [← h0]
      exact scan_hit hlt (by simp only [er, h0]; simpa using hz)
    have hpre : prClu [.s g.nm, .b g.dr, .l g.N, .l g.E, .l g.C, .i (j : Int)] := ⟨j, rfl, hlt, h16, okC_of hk⟩
    simp (disch := omega) only [rt30_1, VT.ok, Nd.holds, X.outs, X.ds, X.d, Op1.ev, Op2.ev, takeD_zero, takeD_cons, List.cons_append, List.nil_append, List.getD_cons_zero, List.getD_cons_succ, D.int_i, D.bool_b, D.lst_l, Int.toNat_natCast, F49, R49, ↓reduceIte, dlt_t, w64', cluD, cL, cI, Int.toNat_natCast]
    refine ⟨fun _ => hpre, ?_⟩
    by_cases h : cluE g.N g.C j = 0
    · rw [if_neg (by exact bne_f h)]
      exact hN h
    · rw [if_pos (by exact bne_t h)]
      exact hX _ rfl h
  · have hj' : j = g.C.length := by omega
    subst hj'
    simp (disch := omega) only [rt30_1, VT.ok, X.ds, X.d, Op2.ev, List.getD_cons_zero, List.getD_cons_succ, D.int_i, D.bool_b, Bool.false_eq_true, ↓reduceIte, dlt_f]
    refine round_exit (by omega) ?_
    show lpV1 [v, .i (g.C.length : Int), .i (g.C.length : Int), .s g.nm, .b g.dr, .l g.N, .l g.E, .l g.C] = _
    simp only [lpV1, errLp, Int.toNat_natCast]
    exact scan_end
theorem loopM30_2 : LoopMeets Try.prog F (R L30_2.key) L30_2 lb30_2 := by
  refine loop_meets (pre := R) mixed (sgAt_all (P := Try.prog) (pre := R) (Φ := F) (l := sg30) (List.forall_mem_cons.2 ⟨Meets.at (pre := R) (Φ := F) m47, List.forall_mem_cons.2 ⟨Meets.at (pre := R) (Φ := F) m48, List.forall_mem_cons.2 ⟨Meets.at (pre := R) (Φ := F) m49, List.forall_mem_cons.2 ⟨Meets.at (pre := R) (Φ := F) m50, (fun _ h => nomatch h)⟩⟩⟩⟩)) (loops_n 0 lk30_2 fun k hk => by omega) L30_2 (fun ρ => ((ρ.getD 2 default).int - (ρ.getD 3 default).int).toNat) le30_2 fun ρ _ hq => ?_
  obtain ⟨v, g, j, rfl, hj, hm⟩ : prV2 ρ := hq
  rw [maxLen_val] at hm
  by_cases hlt : j < g.E.length
  · have hN : edgeE g.N (el g.E j) = 0 → RoundOk F (R L30_2.key) (fun ρ => ((ρ.getD 2 default).int - (ρ.getD 3 default).int).toNat) L30_2 [v, .l g.E, .i (g.E.length : Int), .i (j : Int), .s g.nm, .b g.dr, .l g.N, .l g.E, .l g.C] [.i (-1), v, .i ((j + 1 : Nat) : Int)] := fun h0 => by
      refine round_next ⟨⟨v, g, j + 1, rfl, by omega, hm⟩, ?_, ?_⟩
      · show ((g.E.length : Int) - ((j + 1 : Nat) : Int)).toNat < ((g.E.length : Int) - (j : Int)).toNat
        omega
      · show lpV2 [v, .l g.E, .i (g.E.length : Int), .i ((j + 1 : Nat) : Int), .s g.nm, .b g.dr, .l g.N, .l g.E, .l g.C] = lpV2 [v, .l g.E, .i (g.E.length : Int), .i (j : Int), .s g.nm, .b g.dr, .l g.N, .l g.E, .l g.C]
        simp only [lpV2, errLp, Int.toNat_natCast]
        exact scan_next hlt (by simp only [er, h0]; rfl)
    have hX : ∀ z : Int, edgeE g.N (el g.E j) = z → z ≠ 0 → RoundOk F (R L30_2.key) (fun ρ => ((ρ.getD 2 default).int - (ρ.getD 3 default).int).toNat) L30_2 [v, .l g.E, .i (g.E.length : Int), .i (j : Int), .s g.nm, .b g.dr, .l g.N, .l g.E, .l g.C] [.i 0, .i z, .i (j : Int)] := fun z h0 hz => by
      refine round_exit (by omega) ?_
      show lpV2 [v, .l g.E, .i (g.E.length : Int), .i (j : Int), .s g.nm, .b g.dr, .l g.N, .l g.E, .l g.C] = _
      simp only [lpV2, errLp, Int.toNat_natCast]
      rw [← h0]
      exact scan_hit hlt (by simp only [er, h0]; simpa using hz)
    simp (disch := omega) only [rt30_2, VT.ok, Nd.holds, X.outs, X.ds, X.d, Op1.ev, Op2.ev, takeD_zero, takeD_cons, List.cons_append, List.nil_append, List.getD_cons_zero, List.getD_cons_succ, D.int_i, D.bool_b, D.lst_l, Int.toNat_natCast, implies_true, true_and, F50, R50, ↓reduceIte, dle_t, dlt_t, w64', edgeD7, Int.toNat_natCast]
    by_cases h : edgeE g.N (el g.E j) = 0
    · rw [if_neg (by exact bne_f h)]
      exact hN h
    · rw [if_pos (by exact bne_t h)]
      exact hX _ rfl h
  · have hj' : j = g.E.length := by omega
    subst hj'
    simp (disch := omega) only [rt30_2, VT.ok, X.ds, X.d, Op2.ev, List.getD_cons_zero, List.getD_cons_succ, D.int_i, D.bool_b, Bool.false_eq_true, ↓reduceIte, dlt_f]
    refine round_exit (by omega) ?_
    show lpV2 [v, .l g.E, .i (g.E.length : Int), .i (g.E.length : Int), .s g.nm, .b g.dr, .l g.N, .l g.E, .l g.C] = _
    simp only [lpV2, errLp, Int.toNat_natCast]
    exact scan_end
theorem m30 : Meets Try.prog 30 S30 (R 30) (F 30) := by
  refine meets_of_vt (pre := R) (Φ := F) mixed (sgAt_all (P := Try.prog) (pre := R) (Φ := F) (l := sg30) (List.forall_mem_cons.2 ⟨Meets.at (pre := R) (Φ := F) m47, List.forall_mem_cons.2 ⟨Meets.at (pre := R) (Φ := F) m48, List.forall_mem_cons.2 ⟨Meets.at (pre := R) (Φ := F) m49, List.forall_mem_cons.2 ⟨Meets.at (pre := R) (Φ := F) m50, (fun _ h => nomatch h)⟩⟩⟩⟩)) Try.func30 b30 n30 (loops_n 3 k30 fun k hk => match k, hk with | 0, _ => loop_this lf30_0 loopM30_0 | 1, _ => loop_this lf30_1 loopM30_1 | 2, _ => loop_this lf30_2 loopM30_2) e30 fun ds hf hq => ?_
  obtain ⟨g, ds', rfl, h5, hnm, ⟨hmN, _⟩, ⟨hmE, _⟩, ⟨hmC, _⟩⟩ := fitsG hf.flat
  have e0 := fits0 h5
  subst e0
  have hF : F 30 [.s g.nm, .b g.dr, .l g.N, .l g.E, .l g.C] = [.i (validE g)] := rfl
  rw [hF]
  generalize hv : validE g = res
  unfold validE at hv
  by_cases h0 : 64 < (g.N.length : Int) ∨ 256 < (g.E.length : Int) ∨ 16 < (g.C.length : Int)
  · rw [if_pos h0] at hv
    have hc : ((decide (64 < (g.N.length : Int)) || decide (256 < (g.E.length : Int))) || decide (16 < (g.C.length : Int))) = true := by
      simp only [Bool.or_eq_true, decide_eq_true_eq]
      omega
    simp only [vt30, VT.ok, Nd.holds, X.outs, X.ds, X.d, Op1.ev, Op2.ev, List.cons_append, List.nil_append, List.getD_cons_zero, List.getD_cons_succ, D.int_i, D.bool_b, D.lst_l, ite_b, ite_or, if_true, takeD1_0, hc]
    rw [hv]
  · rw [if_neg h0] at hv
    have p0 : prV0 [.i 0, .i (g.N.length : Int), .i 0, .s g.nm, .b g.dr, .l g.N, .l g.E, .l g.C] := ⟨_, g, 0, rfl, by omega, hmN⟩
    have p1 : ∀ v, prV1 [v, .i (g.C.length : Int), .i 0, .s g.nm, .b g.dr, .l g.N, .l g.E, .l g.C] := fun v => ⟨_, g, 0, rfl, by omega, by omega, fun k hk => by omega⟩
    have p2 : ∀ v, prV2 [v, .l g.E, .i (g.E.length : Int), .i 0, .s g.nm, .b g.dr, .l g.N, .l g.E, .l g.C] := fun v => ⟨_, g, 0, rfl, by omega, hmE⟩
    simp (disch := omega) only [vt30, VT.ok, Nd.holds, X.outs, X.ds, X.d, Op1.ev, Op2.ev, takeD_zero, takeD_cons, List.cons_append, List.nil_append, List.getD_cons_zero, List.getD_cons_succ, D.int_i, D.bool_b, D.lst_l, D.str_s, Bool.false_eq_true, implies_true, true_and, F47, R47, F13000, R13000, F13001, R13001, F13002, R13002, ↓reduceIte, dlt_f, nameD, cS, lpV0, lpV1, lpV2, Int.toNat_zero]
    cases h1 : isName g.nm
    · rw [h1] at hv
      simp only [Bool.not_false, if_true]
      rw [← hv]; rfl
    · rw [h1] at hv
      simp only [if_true, Bool.not_true, Bool.false_eq_true, if_false] at hv ⊢
      refine ⟨fun _ => p0, ?_⟩
      rcases errLp_two (nodeE g.N g.C) (.i 0) g.N.length with ⟨h2, h3⟩ | ⟨h2, _, h3⟩
      · rw [if_neg h2] at hv
        simp only [h3, takeD_zero, takeD_cons, List.getD_cons_zero, List.getD_cons_succ, D.int_i, ↓reduceIte, beq_t]
        rw [hv]
      · rw [if_pos h2] at hv
        simp only [h3, takeD_zero, takeD_cons, List.cons_append, List.nil_append, List.getD_cons_zero, List.getD_cons_succ, D.int_i]
        rw [if_neg (by decide)]
        refine ⟨fun _ => p1 _, ?_⟩
        rcases errLp_two (cluE g.N g.C) (.i 0) g.C.length with ⟨h4, h5⟩ | ⟨h4, _, h5⟩
        · rw [if_neg h4] at hv
          simp only [h5, takeD_zero, takeD_cons, List.cons_append, List.nil_append, List.getD_cons_zero, List.getD_cons_succ, D.int_i]
          rw [if_pos (by rfl), hv]
        · rw [if_pos h4] at hv
          simp only [h5, takeD_zero, takeD_cons, List.cons_append, List.nil_append, List.getD_cons_zero, List.getD_cons_succ, D.int_i]
          rw [if_neg (by decide)]
          refine ⟨fun _ => p2 _, ?_⟩
          rcases errLp_two (fun j => edgeE g.N (el g.E j)) (.i 0) g.E.length with ⟨h6, h7⟩ | ⟨h6, _, h7⟩
          · simp only [h7, takeD_zero, takeD_cons, List.getD_cons_zero, List.getD_cons_succ, D.int_i]
            rw [if_pos (by rfl), hv]
          · simp only [h7, takeD_zero, takeD_cons, List.getD_cons_zero, List.getD_cons_succ, D.int_i]
            rw [if_neg (by decide), ← hv, h6]
end Go.Proofs.Ythpppbfiiphgoaa.rv
namespace Go.Proofs.Ythpppbfiiphgoaa.rv
set_option maxRecDepth 10000
open Go.RV
theorem valid_parts {g : Gd} (h : validE g = 0) : (g.N.length ≤ 64 ∧ g.E.length ≤ 256 ∧ g.C.length ≤ 16) ∧ isName g.nm = true ∧ (∀ k, k < g.N.length → nodeE g.N g.C k = 0) ∧ (∀ k, k < g.C.length → cluE g.N g.C k = 0) ∧ ∀ k, k < g.E.length → edgeE g.N (el g.E k) = 0 := by
  unfold validE at h
  split at h
  · omega
  · split at h
    · split at h
      · rename_i h0 h1 h2
        split at h
        · rename_i h3
          exact ⟨by omega, h1, fe_ok.1 h2, fe_ok.1 h3, fe_ok.1 h⟩
        · omega
      · omega
    · omega
theorem node_cl {N C : List (List D)} {i : Nat} (h : nodeE N C i = 0) : -1 ≤ cI (el N i) 4 ∧ cI (el N i) 4 < C.length := by
  unfold nodeE at h
  split at h
  · split at h
    · omega
    · split at h
      · split at h
        · rename_i h1
          simp only [Bool.and_eq_true, Bool.not_eq_true', decide_eq_false_iff_not] at h1
          omega
        · omega
      · omega
  · omega
theorem valid_okV {g : Gd} (h : validE g = 0) : okV g := by
  obtain ⟨⟨h1, _, h3⟩, _, h4, h5, _⟩ := valid_parts h
  exact ⟨h1, h3, okC_of h5, fun v hv => node_cl (h4 v hv)⟩
theorem okV_at {g : Gd} (h : okV g) {c : Int} (h0 : -1 ≤ c) (h1 : c < g.C.length) : atC g.C c := ⟨h0, h1, h.2.1, h.2.2.1.mono (by omega)⟩
theorem valid_c {g : Gd} {c : Int} (h : ¬ (validE g = 0 ∧ -1 ≤ c ∧ c < g.C.length)) : ((!(validE g == 0) || decide (c < -1)) || decide ((g.C.length : Int) ≤ c)) = true := by
  simp only [Bool.or_eq_true, Bool.not_eq_true', beq_eq_false_iff_ne, decide_eq_true_eq]
  omega
theorem valid_c' {g : Gd} {c : Int} (h : validE g = 0 ∧ -1 ≤ c ∧ c < g.C.length) : ((!(validE g == 0) || decide (c < -1)) || decide ((g.C.length : Int) ≤ c)) = false := by
  simp only [Bool.or_eq_false_iff, Bool.not_eq_false', beq_iff_eq, decide_eq_false_iff_not]
  omega
theorem gOf_eq (g : Gd) (l : List D) : gOf (.s g.nm :: .b g.dr :: .l g.N :: .l g.E :: .l g.C :: l) = g := rfl
theorem m53 : Meets Try.prog 53 S53 (R 53) (F 53) := by
  refine meets_of_vt (pre := R) (Φ := F) mixed (sgAt_all (P := Try.prog) (pre := R) (Φ := F) (l := sg53) (List.forall_mem_cons.2 ⟨Meets.at (pre := R) (Φ := F) m30, List.forall_mem_cons.2 ⟨Meets.at (pre := R) (Φ := F) m72, (fun _ h => nomatch h)⟩⟩)) Try.func53 b53 n53 (loops_n 0 k53 fun k hk => by omega) e53 fun ds hf hq => ?_
  obtain ⟨g, ds', rfl, h5, _⟩ := fitsG hf.flat
  obtain ⟨x, rfl, hx⟩ := fits1 h5
  obtain ⟨c, rfl, _⟩ := wf_i64 hx
  by_cases h : validE g = 0 ∧ -1 ≤ c ∧ c < g.C.length
  · have hat : atC g.C c := okV_at (valid_okV h.1) h.2.1 h.2.2
    simp only [vt53, VT.ok, Nd.holds, X.outs, X.ds, X.d, Op1.ev, Op2.ev, takeD_zero, takeD_cons, List.cons_append, List.nil_append, List.getD_cons_zero, List.getD_cons_succ, D.int_i, D.bool_b, D.lst_l, ite_b, ite_or, Bool.false_eq_true, if_false, implies_true, true_and, and_true, F72, R72, F30, R30, F53, validD, gOf_eq, valid_c' h, depED, depE, depthD, if_pos h, cI, cL]
    exact fun _ => hat
  · simp only [vt53, VT.ok, Nd.holds, X.outs, X.ds, X.d, Op1.ev, Op2.ev, takeD_zero, takeD_cons, List.cons_append, List.nil_append, List.getD_cons_zero, List.getD_cons_succ, D.int_i, D.bool_b, D.lst_l, ite_b, ite_or, if_true, implies_true, and_true, takeD1_0, F72, R72, F30, R30, F53, validD, gOf_eq, valid_c h, depED, depE, if_neg h, cI]
end Go.Proofs.Ythpppbfiiphgoaa.rv
namespace Go.Proofs.Ythpppbfiiphgoaa.rv
set_option maxRecDepth 10000
open Go.RV
theorem few_w {n : Int} {j : Nat} (h0 : 0 ≤ n) (h1 : n ≤ j) (hj : (j : Int) < 9223372036854775807) : IntKind.i64.wrap (n + 1) = n + 1 := w64 (by omega)
theorem fewS_next {I : List (List D)} {j : Nat} (h : j < I.length) (n : Int) (hx : fewX I j n = false) : fewS I (I.length - j) j n = fewS I (I.length - (j + 1)) (j + 1) (fewJ I j n) := by
  have e : I.length - j = (I.length - (j + 1)) + 1 := by omega
  rw [e, fewS, hx, if_neg (by decide)]
theorem fewS_hit {I : List (List D)} {j : Nat} (h : j < I.length) (n : Int) (hx : fewX I j n = true) : fewS I (I.length - j) j n = (false, fewJ I j n, j) := by
  have e : I.length - j = (I.length - (j + 1)) + 1 := by omega
  rw [e, fewS, hx, if_pos rfl]
theorem loopM9_0 : LoopMeets Try.prog F (R L9_0.key) L9_0 lb9_0 := by
  refine loop_meets (pre := R) mixed (sgAt_all (P := Try.prog) (pre := R) (Φ := F) (l := sg9) ((fun _ h => nomatch h))) (loops_n 0 lk9_0 fun k hk => by omega) L9_0 (fun ρ => (((ρ.getD 7 default).lst.length : Int) - (ρ.getD 2 default).int).toNat) le9_0 fun ρ _ hq => ?_
  obtain ⟨v, n, j, a, b, c, d, I, rfl, hj, hm, hn0, hn1⟩ : prFw ρ := hq
  rw [maxLen_val] at hm
  by_cases hlt : j < I.length
  · have hX : fewX I j n = true → RoundOk F (R L9_0.key) (fun ρ => (((ρ.getD 7 default).lst.length : Int) - (ρ.getD 2 default).int).toNat) L9_0 [v, .i n, .i (j : Int), a, b, c, d, .l I] [.i 0, .b false, .i (fewJ I j n), .i (j : Int)] := fun hx => by
      refine round_exit (by omega) ?_
      show lpFw [v, .i n, .i (j : Int), a, b, c, d, .l I] = _
      simp only [lpFw, Int.toNat_natCast, fewS_hit hlt n hx, fewO]
      rfl
    have hN : fewX I j n = false → RoundOk F (R L9_0.key) (fun ρ => (((ρ.getD 7 default).lst.length : Int) - (ρ.getD 2 default).int).toNat) L9_0 [v, .i n, .i (j : Int), a, b, c, d, .l I] [.i (-1), v, .i (fewJ I j n), .i ((j + 1 : Nat) : Int)] := fun hx => by
      refine round_next ⟨⟨v, fewJ I j n, j + 1, a, b, c, d, I, rfl, by omega, hm, ?_, ?_⟩, ?_, ?_⟩
      · unfold fewJ; split <;> omega
      · unfold fewJ; split <;> omega
      · show ((I.length : Int) - ((j + 1 : Nat) : Int)).toNat < ((I.length : Int) - (j : Int)).toNat
        omega
      · show lpFw [v, .i (fewJ I j n), .i ((j + 1 : Nat) : Int), a, b, c, d, .l I] = lpFw [v, .i n, .i (j : Int), a, b, c, d, .l I]
        simp only [lpFw, Int.toNat_natCast, fewS_next hlt n hx]
    have c0 : decide ((0 : Int) ≤ (j : Int)) = true := decide_eq_true (by omega)
    have c1 : decide ((j : Int) < (I.length : Int)) = true := decide_eq_true (by omega)
    have c2 : IntKind.i64.wrap ((j : Int) + 1) = ((j + 1 : Nat) : Int) := nat_wrap (by omega)
    have c3 : IntKind.i64.wrap (n + 1) = n + 1 := few_w hn0 hn1 (by omega)
    simp only [rt9_0, VT.ok, Nd.holds, X.ds, X.d, Op1.ev, Op2.ev, List.getD_cons_zero, List.getD_cons_succ, D.int_i, D.bool_b, D.lst_l, ite_b, ite_or, Int.toNat_natCast, if_true, implies_true, true_and, c0, c1, c2, c3]
    by_cases hp : 0 < (((I.getD j []).getD 6 default).lst.length : Int)
    · have hJ : fewJ I j n = n + 1 := if_pos hp
      rw [decide_eq_true hp, if_pos rfl]
      rw [← hJ]
      show if fewX I j n = true then _ else _
      cases hx : fewX I j n
      · rw [if_neg (by decide)]; exact hN hx
      · rw [if_pos rfl]; exact hX hx
    · have hJ : fewJ I j n = n := if_neg hp
      rw [decide_eq_false hp, if_neg (by decide)]
      have hx' : fewX I j n = (decide (60 < n) || decide (600 < (((I.getD j []).getD 6 default).lst.length : Int)) || decide (200 < (((I.getD j []).getD 7 default).str.size : Int))) := by
        unfold fewX; rw [hJ]
      rw [← hx']
      rw [hJ] at hX hN
      cases hx : fewX I j n
      · rw [if_neg (by decide)]; exact hN hx
      · rw [if_pos rfl]; exact hX hx
  · have hj' : j = I.length := by omega
    subst hj'
    simp (disch := omega) only [rt9_0, VT.ok, X.ds, X.d, Op1.ev, Op2.ev, List.getD_cons_zero, List.getD_cons_succ, D.int_i, D.bool_b, D.lst_l, Bool.false_eq_true, ↓reduceIte, dlt_f]
    refine round_exit (by omega) ?_
    show lpFw [v, .i n, .i (I.length : Int), a, b, c, d, .l I] = _
    simp only [lpFw, Int.toNat_natCast, Nat.sub_self, fewS, fewO, if_true]
theorem m9 : Meets Try.prog 9 S9 (R 9) (F 9) := by
  refine meets_of_vt (pre := R) (Φ := F) mixed (sgAt_all (P := Try.prog) (pre := R) (Φ := F) (l := sg9) ((fun _ h => nomatch h))) Try.func9 b9 n9 (loops_n 1 k9 fun k hk => match k, hk with | 0, _ => loop_this lf9_0 loopM9_0) e9 fun ds hf _ => ?_
  obtain ⟨a, b, c, d, I, ds', rfl, h5, hm, hfx⟩ := fitsS hf.flat
  obtain rfl := fits0 h5
  have hval : fewD [.i a, .i b, .i c, .i d, .l I] = [.b (fewB I)] := rfl
  rw [show F 9 = fewD from rfl, hval]
  have hpre : prFw [.b false, .i 0, .i 0, .i a, .i b, .i c, .i d, .l I] := ⟨_, 0, 0, _, _, _, _, I, rfl, by omega, hm, by omega, by omega⟩
  have hlp : lpFw [.b false, .i 0, .i 0, .i a, .i b, .i c, .i d, .l I] = fewO (.b false) (fewS I I.length 0 0) := rfl
  by_cases h1 : 2100 < (I.length : Int)
  · simp (disch := omega) only [vt9, VT.ok, X.ds, X.d, Op1.ev, Op2.ev, List.getD_cons_zero, List.getD_cons_succ, D.int_i, D.bool_b, D.lst_l, ↓reduceIte, fewB, decide_eq_true h1, Bool.not_true, Bool.false_and]
  · obtain ⟨⟨r1, r2, r3⟩, hr⟩ : ∃ q, fewS I I.length 0 0 = q := ⟨_, rfl⟩
    simp (disch := omega) only [vt9, VT.ok, Nd.holds, X.outs, X.ds, X.d, Op1.ev, Op2.ev, List.cons_append, List.nil_append, List.getD_cons_zero, List.getD_cons_succ, D.int_i, D.bool_b, D.lst_l, Bool.false_eq_true, F10900, R10900, ↓reduceIte, fewB, decide_eq_false h1, Bool.not_false, Bool.true_and, hlp, hr, fewO]
    refine ⟨fun _ => hpre, ?_⟩
    cases r1
    · exact (rfl : [D.b false] = [D.b false])
    · exact (rfl : [D.b true] = [D.b true])
theorem len16 {ds : List D} (h : ds.length = 16) : ∃ a0 a1 a2 a3 a4 a5 a6 a7 a8 a9 a10 a11 a12 a13 a14 a15 : D, ds = [a0, a1, a2, a3, a4, a5, a6, a7, a8, a9, a10, a11, a12, a13, a14, a15] := by
  match ds, h with
  | [a0, a1, a2, a3, a4, a5, a6, a7, a8, a9, a10, a11, a12, a13, a14, a15], _ => exact ⟨a0, a1, a2, a3, a4, a5, a6, a7, a8, a9, a10, a11, a12, a13, a14, a15, rfl⟩
theorem m43 : Meets Try.prog 43 S43 (R 43) (F 43) := by
  refine meets_of_vt (pre := R) (Φ := F) mixed (sgAt_all (P := Try.prog) (pre := R) (Φ := F) (l := sg43) (List.forall_mem_cons.2 ⟨Meets.at (pre := R) (Φ := F) m61, (fun _ h => nomatch h)⟩)) Try.func43 b43 n43 (loops_n 0 k43 fun k hk => by omega) e43 fun ds hf _ => ?_
  obtain ⟨a0, a1, a2, a3, a4, a5, a6, a7, a8, a9, a10, a11, a12, a13, a14, a15, rfl⟩ := len16 hf.1
  simp only [vt43, VT.ok, Nd.holds, X.outs, X.ds, X.d, Op2.ev, takeD_zero, takeD_cons, List.cons_append, List.nil_append, List.getD_cons_zero, List.getD_cons_succ, D.bool_b, ite_b, ite_and, implies_true, true_and, F61, R61, F43, eqFn]
  rfl
theorem m71051 : Meets Try.prog 71051 S71051 (R 71051) (F 71051) := by
  refine meets_dyn (by decide) rfl fun d ds hf hp => ?_
  obtain ⟨bs, e, hl⟩ : dpSameI 43 (d :: ds) := hp
  cases e
  exact ⟨43, [], [], S43, _, F 43, rfl, by decide, m43, rfl, rfl, trivial, by rw [List.append_nil]; rfl⟩
theorem loopM42_0 : LoopMeets Try.prog F (R L42_0.key) L42_0 lb42_0 := by
  refine loop_meets (pre := R) mixed (sgAt_all (P := Try.prog) (pre := R) (Φ := F) (l := sg42) (List.forall_mem_cons.2 ⟨Meets.at (pre := R) (Φ := F) m71051, (fun _ h => nomatch h)⟩)) (loops_n 0 lk42_0 fun k hk => by omega) L42_0 (fun ρ => ((ρ.getD 4 default).int - (ρ.getD 5 default).int).toNat) le42_0 fun ρ _ hq => ?_
  obtain ⟨ys, c, v, xs, j, rfl, hj, hm, hl, hp⟩ : eqfPr (dpSameI 43) 8 ρ := hq
  rw [maxLen_val] at hm
  by_cases hlt : j < xs.length
  · simp (disch := omega) only [rt42_0, VT.ok, Nd.holds, X.outs, X.ds, X.d, Op1.ev, Op2.ev, List.cons_append, List.nil_append, List.getD_cons_zero, List.getD_cons_succ, D.int_i, D.bool_b, D.lst_l, Int.toNat_natCast, implies_true, true_and, takeD1_0, F71051, R71051, ↓reduceIte, dle_t, dlt_t, w64']
    refine ⟨fun _ => hp j hlt, ?_⟩
    show if (!((dySameI (c :: (cellsN 8 (el xs j) ++ cellsN 8 (el ys j)))).getD 0 default).bool) = true then _ else _
    cases hb : ((dySameI (c :: (cellsN 8 (el xs j) ++ cellsN 8 (el ys j)))).getD 0 default).bool
    · simp only [Bool.not_false, if_true]
      refine round_exit (by omega) ?_
      show eqfLp dySameI 8 [.l ys, c, v, .l xs, .i (xs.length : Int), .i (j : Int)] = _
      simp only [eqfLp, Int.toNat_natCast]
      exact scan_hit hlt (by rw [hb]; rfl)
    · simp only [Bool.not_true, Bool.false_eq_true, if_false]
      refine round_next ⟨⟨ys, c, v, xs, j + 1, rfl, by omega, hm, hl, hp⟩, ?_, ?_⟩
      · show ((xs.length : Int) - ((j + 1 : Nat) : Int)).toNat < ((xs.length : Int) - (j : Int)).toNat
        omega
      · show eqfLp dySameI 8 [.l ys, c, v, .l xs, .i (xs.length : Int), .i ((j + 1 : Nat) : Int)] = eqfLp dySameI 8 [.l ys, c, v, .l xs, .i (xs.length : Int), .i (j : Int)]
        simp only [eqfLp, Int.toNat_natCast]
        exact scan_next hlt (by rw [hb]; rfl)
  · have hj' : j = xs.length := by omega
    subst hj'
    simp (disch := omega) only [rt42_0, VT.ok, X.ds, X.d, Op2.ev, List.getD_cons_zero, List.getD_cons_succ, D.int_i, D.bool_b, Bool.false_eq_true, ↓reduceIte, dlt_f]
    refine round_exit (by omega) ?_
    show eqfLp dySameI 8 [.l ys, c, v, .l xs, .i (xs.length : Int), .i (xs.length : Int)] = _
    simp only [eqfLp, Int.toNat_natCast]
    exact scan_end
theorem m42 : Meets Try.prog 42 S42 (R 42) (F 42) := by
  refine meets_of_vt (pre := R) (Φ := F) mixed (sgAt_all (P := Try.prog) (pre := R) (Φ := F) (l := sg42) (List.forall_mem_cons.2 ⟨Meets.at (pre := R) (Φ := F) m71051, (fun _ h => nomatch h)⟩)) Try.func42 b42 n42 (loops_n 1 k42 fun k hk => match k, hk with | 0, _ => loop_this lf42_0 loopM42_0) e42 fun ds hf hq => ?_
  obtain ⟨x, y, c, rfl, hx, hy, hc⟩ := fits3 hf.flat
  obtain ⟨xs, rfl, hm, _⟩ := wf_sl hx
  obtain ⟨ys, rfl, hm', _⟩ := wf_sl hy
  by_cases hl : ys.length = xs.length
  · have hpre : eqfPr (dpSameI 43) 8 [.l ys, c, .b false, .l xs, .i (xs.length : Int), .i 0] := ⟨ys, c, _, xs, 0, rfl, by omega, hm, hl, hq hl.symm⟩
    simp (disch := omega) only [vt42, VT.ok, Nd.holds, X.outs, X.ds, X.d, Op1.ev, Op2.ev, List.cons_append, List.nil_append, List.getD_cons_zero, List.getD_cons_succ, D.int_i, D.bool_b, D.lst_l, Bool.false_eq_true, F14200, R14200, F42, ↓reduceIte, beq_t, Bool.not_true, eqfFn, eqR, cL]
    refine ⟨fun _ => hpre, ?_⟩
    simp only [eqfLp, Int.toNat_zero, Nat.sub_zero]
    rcases scan_two (p := fun j => !((dySameI (c :: (cellsN 8 (el xs j) ++ cellsN 8 (el ys j)))).getD 0 default).bool) xs.length with ⟨h1, j, _, _, _, h⟩ | ⟨h1, h⟩
    · simp only [h, h1]; rfl
    · simp only [h, h1]; rfl
  · simp (disch := omega) only [vt42, VT.ok, X.ds, X.d, Op1.ev, Op2.ev, List.getD_cons_zero, List.getD_cons_succ, D.int_i, D.bool_b, D.lst_l, F42, ↓reduceIte, beq_f, Bool.not_false, eqfFn, eqR, cL, Bool.false_and]
theorem fits10 {s e s' e' : TypeId} {ds : List D} (h : FitsF (.int .i64 :: .int .i64 :: .int .i64 :: .int .i64 :: .sl e [.int .i64, .int .i64, .int .i64, .int .i64, .int .i64, .int .i64, .sl s [.int .i64, .int .i64], .str] :: .int .i64 :: .int .i64 :: .int .i64 :: .int .i64 :: .sl e' [.int .i64, .int .i64, .int .i64, .int .i64, .int .i64, .int .i64, .sl s' [.int .i64, .int .i64], .str] :: []) ds) :
    ∃ (a b c d : Int) (I : List (List D)) (a' b' c' d' : Int) (J : List (List D)), ds = [.i a, .i b, .i c, .i d, .l I, .i a', .i b', .i c', .i d', .l J] ∧ I.length ≤ maxLen ∧ J.length ≤ maxLen := by
  obtain ⟨a, b, c, d, I, ds', rfl, h5, hm, _⟩ := fitsS h
  obtain ⟨a', b', c', d', J, ds'', rfl, h6, hm', _⟩ := fitsS h5
  obtain rfl := fits0 h6
  exact ⟨a, b, c, d, I, a', b', c', d', J, rfl, hm, hm'⟩
theorem m21 : Meets Try.prog 21 S21 (R 21) (F 21) := by
  refine meets_of_vt (pre := R) (Φ := F) mixed (sgAt_all (P := Try.prog) (pre := R) (Φ := F) (l := sg21) (List.forall_mem_cons.2 ⟨Meets.at (pre := R) (Φ := F) m42, (fun _ h => nomatch h)⟩)) Try.func21 b21 n21 (loops_n 0 k21 fun k hk => by omega) e21 fun ds hf _ => ?_
  obtain ⟨a, b, c, d, I, a', b', c', d', J, rfl, hm, hm'⟩ := fits10 hf.flat
  simp only [vt21, VT.ok, Nd.holds, X.outs, X.ds, X.d, Op2.ev, takeD_zero, takeD_cons, List.cons_append, List.nil_append, List.getD_cons_zero, List.getD_cons_succ, D.int_i, D.bool_b, D.lst_l, ite_b, ite_and, F42, R42, F21, eqfFn, cL]
  exact ⟨fun _ _ i _ => ⟨_, rfl, by rw [List.length_append, cellsN_length, cellsN_length]⟩, rfl⟩
end Go.Proofs.Ythpppbfiiphgoaa.rv
namespace Go.Proofs.Ythpppbfiiphgoaa.rv
set_option maxRecDepth 10000
open Go.RV
theorem fn36_eq (a b c d x y : Int) : fn36 [.i a, .i b, .i c, .i d, .i x, .i y] = [.i (mvQ x y (a, b, c, d)).1, .i (mvQ x y (a, b, c, d)).2.1, .i (mvQ x y (a, b, c, d)).2.2.1, .i (mvQ x y (a, b, c, d)).2.2.2] := by
  simp only [fn36, vt36, VT.val, X.ds, X.d, Op2.ev, List.getD_cons_zero, List.getD_cons_succ, D.int_i]
  rfl
theorem clone_pre {xs : List (List D)} (h : xs.length ≤ 512) : clonePreP [.l xs] := ⟨xs, rfl, by omega⟩
theorem loopM18_1 : LoopMeets Try.prog F (R L18_1.key) L18_1 lb18_1 := by
  refine loop_meets (pre := R) mixed (sgAt_all (P := Try.prog) (pre := R) (Φ := F) (l := sg18) (List.forall_mem_cons.2 ⟨Meets.at (pre := R) (Φ := F) m11, List.forall_mem_cons.2 ⟨Meets.at (pre := R) (Φ := F) m36, List.forall_mem_cons.2 ⟨Meets.at (pre := R) (Φ := F) m35, List.forall_mem_cons.2 ⟨Meets.at (pre := R) (Φ := F) m32, (fun _ h => nomatch h)⟩⟩⟩⟩)) (loops_n 0 lk18_1 fun k hk => by omega) L18_1 (fun ρ => (((ρ.getD 11 default).lst.length : Int) - (ρ.getD 3 default).int).toNat) le18_1 fun ρ _ hq => ?_
  obtain ⟨dx, dy, x4, x5, x6, x7, x8, x9, x10, ps, j, rfl, hj, hm, hp⟩ : prM1 ρ := hq
  by_cases hlt : j < ps.length
  · obtain ⟨u, v, e⟩ := hp _ (getD_mem [] hlt)
    obtain ⟨k1, k2, k3⟩ := upd2 hlt e (wr (u + dx))
    have c0 : decide ((0 : Int) ≤ (j : Int)) = true := decide_eq_true (by omega)
    have c1 : decide ((j : Int) < (ps.length : Int)) = true := decide_eq_true (by omega)
    have c2 : IntKind.i64.wrap ((j : Int) + 1) = ((j + 1 : Nat) : Int) := nat_wrap (by omega)
    have e0 : ((ps.getD j []).getD 0 default).int = u := by rw [e]; rfl
    have e1 : (([D.i (wr (u + dx)), D.i v] : List D).getD 1 default).int = v := rfl
    have k4 := k3 (wr (v + dy))
    simp only [rt18_1, VT.ok, Nd.holds, X.ds, X.d, Op1.ev, Op2.ev, List.getD_cons_zero, List.getD_cons_succ, D.int_i, D.bool_b, D.lst_l, Int.toNat_natCast, if_true, implies_true, true_and, List.length_set, c0, c1, c2, e0, k1, k2, k4]
    refine round_next ⟨⟨dx, dy, x4, x5, x6, x7, x8, x9, x10, ps.set j [.i (wr (u + dx)), .i (wr (v + dy))], j + 1, by rw [List.length_set]; rfl, by rw [List.length_set]; omega, by rw [List.length_set]; exact hm, fun p hpm => ?_⟩, ?_, ?_⟩
    · rcases List.mem_or_eq_of_mem_set hpm with h | h
      · exact hp p h
      · exact ⟨_, _, h⟩
    · show (((ps.set j _).length : Int) - ((j + 1 : Nat) : Int)).toNat < ((ps.length : Int) - (j : Int)).toNat
      rw [List.length_set]
      omega
    · show lpM1 [.i dx, .i dy, .i (ps.length : Int), .i ((j + 1 : Nat) : Int), x4, x5, x6, x7, x8, x9, x10, .l (ps.set j [.i (wr (u + dx)), .i (wr (v + dy))])] = lpM1 [.i dx, .i dy, .i (ps.length : Int), .i (j : Int), x4, x5, x6, x7, x8, x9, x10, .l ps]
      have eA : lpM1 [.i dx, .i dy, .i (ps.length : Int), .i ((j + 1 : Nat) : Int), x4, x5, x6, x7, x8, x9, x10, .l (ps.set j [.i (wr (u + dx)), .i (wr (v + dy))])] = [.i 0, .i ((ps.set j [.i (wr (u + dx)), .i (wr (v + dy))]).length : Int), .l ((ps.set j [.i (wr (u + dx)), .i (wr (v + dy))]).take (j + 1) ++ ((ps.set j [.i (wr (u + dx)), .i (wr (v + dy))]).drop (j + 1)).map (mvP dx dy))] := rfl
      have eB : lpM1 [.i dx, .i dy, .i (ps.length : Int), .i (j : Int), x4, x5, x6, x7, x8, x9, x10, .l ps] = [.i 0, .i (ps.length : Int), .l (ps.take j ++ (ps.drop j).map (mvP dx dy))] := rfl
      rw [eA, eB, List.length_set, mv_step hlt e]
  · have hj' : j = ps.length := by omega
    subst hj'
    simp (disch := omega) only [rt18_1, VT.ok, X.ds, X.d, Op2.ev, List.getD_cons_zero, List.getD_cons_succ, D.int_i, D.bool_b, Bool.false_eq_true, ↓reduceIte, dlt_f]
    refine round_exit (by omega) ?_
    show ([.i 0, .i (ps.length : Int), .l (ps.take ps.length ++ (ps.drop ps.length).map (mvP dx dy))] : List D) = _
    rw [List.take_length, List.drop_length, List.map_nil, List.append_nil]
theorem mvI_n {dx dy : Int} {x : List D} (h : cI x 0 ≠ 3) : mvI dx dy x = [x.getD 0 default, x.getD 1 default, .i (mvQ dx dy (rQ x 2)).1, .i (mvQ dx dy (rQ x 2)).2.1, .i (mvQ dx dy (rQ x 2)).2.2.1, .i (mvQ dx dy (rQ x 2)).2.2.2, .l ((cL x 6).map (mvP dx dy)), x.getD 7 default] := if_neg h
theorem loopM18_0 : LoopMeets Try.prog F (R L18_0.key) L18_0 lb18_0 := by
  refine loop_meets (pre := R) mixed (sgAt_all (P := Try.prog) (pre := R) (Φ := F) (l := sg18) (List.forall_mem_cons.2 ⟨Meets.at (pre := R) (Φ := F) m11, List.forall_mem_cons.2 ⟨Meets.at (pre := R) (Φ := F) m36, List.forall_mem_cons.2 ⟨Meets.at (pre := R) (Φ := F) m35, List.forall_mem_cons.2 ⟨Meets.at (pre := R) (Φ := F) m32, (fun _ h => nomatch h)⟩⟩⟩⟩)) (loops_n 1 lk18_0 fun k hk => match k, hk with | 0, _ => by rw [li18_0_0]; exact loop_this lf18_1 loopM18_1) L18_0 (fun ρ => ((ρ.getD 3 default).int - (ρ.getD 4 default).int).toNat) le18_0 fun ρ _ hq => ?_
  obtain ⟨dx, dy, x5, x6, x7, x8, I, acc, j, rfl, hj, hI, ha⟩ : prM0 ρ := hq
  have hm := hI.1
  by_cases hlt : j < I.length
  · have hn : ∀ y, mvI dx dy (el I j) = y → RoundOk F (R L18_0.key) (fun ρ => ((ρ.getD 3 default).int - (ρ.getD 4 default).int).toNat) L18_0 [.i dx, .i dy, .l I, .i (I.length : Int), .i (j : Int), x5, x6, x7, x8, .l acc] [.i (-1), .i ((j + 1 : Nat) : Int), .l (acc ++ [y])] := fun y h => by
      subst h
      refine round_next ⟨⟨dx, dy, x5, x6, x7, x8, I, acc ++ [mvI dx dy (el I j)], j + 1, rfl, by omega, hI, by rw [List.length_append, ha]; rfl⟩, ?_, ?_⟩
      · show ((I.length : Int) - ((j + 1 : Nat) : Int)).toNat < ((I.length : Int) - (j : Int)).toNat
        omega
      · show ([.i 0, .i (I.length : Int), .l ((acc ++ [mvI dx dy (el I j)]) ++ collN (fun j => [mvI dx dy (el I j)]) I.length (j + 1))] : List D) = [.i 0, .i (I.length : Int), .l (acc ++ collN (fun j => [mvI dx dy (el I j)]) I.length j)]
        rw [coll_next (f := fun j => [mvI dx dy (el I j)]) hlt acc]
    obtain ⟨⟨k, o, a, b, c, d, ps, s, e, hps⟩, hl⟩ := hI.2 j hlt
    have e' : I.getD j [] = [.i k, .i o, .i a, .i b, .i c, .i d, .l ps, .s s] := e
    have hl : ps.length ≤ 512 := by rw [e] at hl; exact hl
    rw [e] at hn
    have c0 : decide ((0 : Int) ≤ (j : Int)) = true := decide_eq_true (by omega)
    have c1 : decide ((j : Int) < (I.length : Int)) = true := decide_eq_true (by omega)
    have c2 : IntKind.i64.wrap ((j : Int) + 1) = ((j + 1 : Nat) : Int) := nat_wrap (by omega)
    have c3 : decide ((((acc ++ [([D.i 0] : List D)]).length : Nat) : Int) ≤ 1599289640401) = true := decide_eq_true (by rw [List.length_append]; simp; omega)
    have c4 : ∀ z : List D, decide ((((acc ++ [z]).length : Nat) : Int) ≤ 1599289640401) = true := fun z => decide_eq_true (by rw [List.length_append]; simp; omega)
    have hcl : ∀ xs, cloneD [.l xs] = [.l xs] := fun _ => rfl
    have hlp : ∀ x4 x5 x6 x7 x8 x9 x10 : D, lpM1 [.i dx, .i dy, .i (ps.length : Int), .i 0, x4, x5, x6, x7, x8, x9, x10, .l ps] = [.i 0, .i (ps.length : Int), .l (ps.map (mvP dx dy))] := fun _ _ _ _ _ _ _ => rfl
    have hpr : ∀ x4 x5 x6 x7 x8 x9 x10 : D, prM1 [.i dx, .i dy, .i (ps.length : Int), .i 0, x4, x5, x6, x7, x8, x9, x10, .l ps] := fun x4 x5 x6 x7 x8 x9 x10 => ⟨dx, dy, x4, x5, x6, x7, x8, x9, x10, ps, 0, rfl, Nat.zero_le _, hl, hps⟩
    have hcp := clone_pre hl
    by_cases h3 : k = 3
    · subst h3
      simp only [rt18_0, VT.ok, Nd.holds, X.outs, X.ds, X.d, Op1.ev, Op2.ev, takeD_zero, takeD_cons, List.cons_append, List.nil_append, List.getD_cons_zero, List.getD_cons_succ, D.int_i, D.bool_b, D.lst_l, Int.toNat_natCast, if_true, Bool.false_eq_true, if_false, implies_true, true_and, F32, R32, F36, R36, F11800, R11800, e', c0, c1, c2, c4, hcl, hlp, beq_self_eq_true, Bool.not_true]
      exact ⟨fun _ => hcp, fun _ => hpr _ _ _ _ _ _ _, hn _ rfl⟩
    · have h3' : (k == 3) = false := beq_f h3
      have hmv : fn36 [.i a, .i b, .i c, .i d, .i dx, .i dy] = [.i (mvQ dx dy (a, b, c, d)).1, .i (mvQ dx dy (a, b, c, d)).2.1, .i (mvQ dx dy (a, b, c, d)).2.2.1, .i (mvQ dx dy (a, b, c, d)).2.2.2] := fn36_eq _ _ _ _ _ _
      simp only [rt18_0, VT.ok, Nd.holds, X.outs, X.ds, X.d, Op1.ev, Op2.ev, takeD_zero, takeD_cons, List.cons_append, List.nil_append, List.getD_cons_zero, List.getD_cons_succ, D.int_i, D.bool_b, D.lst_l, Int.toNat_natCast, if_true, implies_true, true_and, F32, R32, F36, R36, F11800, R11800, e', c0, c1, c2, c4, hcl, hlp, hmv, h3', Bool.not_false]
      exact ⟨fun _ => hcp, fun _ => hpr _ _ _ _ _ _ _, hn _ (mvI_n h3)⟩
  · have hj' : j = I.length := by omega
    subst hj'
    simp (disch := omega) only [rt18_0, VT.ok, X.ds, X.d, Op2.ev, List.getD_cons_zero, List.getD_cons_succ, D.int_i, D.bool_b, Bool.false_eq_true, ↓reduceIte, dlt_f]
    refine round_exit (by omega) ?_
    show ([.i 0, .i (I.length : Int), .l (acc ++ collN (fun j => [mvI dx dy (el I j)]) I.length I.length)] : List D) = _
    rw [coll_end]
theorem okIs_of {e : TypeId} {I : List (List D)} {b : Bx} (h : ∀ x ∈ I, FitsF [.int .i64, .int .i64, .int .i64, .int .i64, .int .i64, .int .i64, .sl e [.int .i64, .int .i64], .str] x) (hv : validS I b = 0) : okIs I := by
  obtain ⟨h1, h2, _⟩ := validS_iff.1 hv
  exact ⟨h1, fun j hj => ⟨okIt_of (h _ (getD_mem [] hj)), item_path (h2 j hj)⟩⟩
theorem fitsS2 {s e : TypeId} {ds : List D} (h : FitsF (.int .i64 :: .int .i64 :: .int .i64 :: .int .i64 :: .sl e [.int .i64, .int .i64, .int .i64, .int .i64, .int .i64, .int .i64, .sl s [.int .i64, .int .i64], .str] :: .int .i64 :: .int .i64 :: []) ds) :
    ∃ (a b c d : Int) (I : List (List D)) (x y : Int), ds = [.i a, .i b, .i c, .i d, .l I, .i x, .i y] ∧ I.length ≤ maxLen ∧ (∀ x ∈ I, FitsF [.int .i64, .int .i64, .int .i64, .int .i64, .int .i64, .int .i64, .sl s [.int .i64, .int .i64], .str] x) ∧ (-9223372036854775808 ≤ x ∧ x ≤ 9223372036854775807) ∧ -9223372036854775808 ≤ y ∧ y ≤ 9223372036854775807 := by
  obtain ⟨a, b, c, d, I, ds', rfl, h5, hm, hI⟩ := fitsS h
  obtain ⟨x, y, rfl, hx, hy⟩ := fits2 h5
  obtain ⟨x, rfl, hx1, hx2⟩ := wf_i64 hx
  obtain ⟨y, rfl, hy1, hy2⟩ := wf_i64 hy
  exact ⟨a, b, c, d, I, x, y, rfl, hm, hI, ⟨hx1, hx2⟩, hy1, hy2⟩
theorem m18 : Meets Try.prog 18 S18 (R 18) (F 18) := by
  refine meets_of_vt (pre := R) (Φ := F) mixed (sgAt_all (P := Try.prog) (pre := R) (Φ := F) (l := sg18) (List.forall_mem_cons.2 ⟨Meets.at (pre := R) (Φ := F) m11, List.forall_mem_cons.2 ⟨Meets.at (pre := R) (Φ := F) m36, List.forall_mem_cons.2 ⟨Meets.at (pre := R) (Φ := F) m35, List.forall_mem_cons.2 ⟨Meets.at (pre := R) (Φ := F) m32, (fun _ h => nomatch h)⟩⟩⟩⟩)) Try.func18 b18 n18 (loops_n 2 k18 fun k hk => match k, hk with | 0, _ => loop_this lf18_0 loopM18_0 | 1, _ => loop_this lf18_1 loopM18_1) e18 fun ds hf _ => ?_
  obtain ⟨a, b, c, d, I, x, y, rfl, hm, hI, _, _⟩ := fitsS2 hf.flat
  have hval : moveD [.i a, .i b, .i c, .i d, .l I, .i x, .i y] = outS (moveS (a, b, c, d) I x y) := rfl
  have hv : valD [.i a, .i b, .i c, .i d, .l I] = [.i (validS I (a, b, c, d))] := rfl
  have hmv : fn36 [.i a, .i b, .i c, .i d, .i x, .i y] = [.i (mvQ x y (a, b, c, d)).1, .i (mvQ x y (a, b, c, d)).2.1, .i (mvQ x y (a, b, c, d)).2.2.1, .i (mvQ x y (a, b, c, d)).2.2.2] := fn36_eq _ _ _ _ _ _
  have hfar : (((decide (x < -536870912) || decide (536870912 < x)) || decide (y < -536870912)) || decide (536870912 < y)) = farB x y := rfl
  have hbx : bxB (mvQ x y (a, b, c, d)).1 (mvQ x y (a, b, c, d)).2.1 (mvQ x y (a, b, c, d)).2.2.1 (mvQ x y (a, b, c, d)).2.2.2 = bxQ (mvQ x y (a, b, c, d)) := rfl
  rw [show F 18 = moveD from rfl, hval]
  simp only [vt18, VT.ok, Nd.holds, X.outs, X.ds, X.d, Op1.ev, Op2.ev, takeD_zero, takeD_cons, List.cons_append, List.nil_append, List.getD_cons_zero, List.getD_cons_succ, D.int_i, D.bool_b, D.lst_l, ite_b, ite_or, implies_true, true_and, F35, R35, F11, R11, F36, R36, F11801, R11801, hv, moveS]
  by_cases h1 : validS I (a, b, c, d) = 0
  · rw [beq_t h1, if_pos h1]
    by_cases h2 : (I.length : Int) = 0
    · simp only [if_true, Bool.false_eq_true, if_false, Bool.not_true, beq_t h2, if_pos h2]
      rfl
    · simp only [takeD_zero, takeD_cons, List.cons_append, List.nil_append, List.getD_cons_zero, List.getD_cons_succ, D.int_i, D.bool_b, Bool.false_eq_true, if_false, Bool.not_true, beq_f h2, if_neg h2, hmv, hfar, fn35_eq, hbx]
      cases h3 : (farB x y || !bxQ (mvQ x y (a, b, c, d)))
      · have hok := okIs_of hI h1
        have hpre : ∀ p q r s : D, prM0 [.i x, .i y, .l I, .i (I.length : Int), .i 0, p, q, r, s, .l []] := fun p q r s => ⟨x, y, p, q, r, s, I, [], 0, rfl, Nat.zero_le _, hok, rfl⟩
        have hlp : ∀ p q r s : D, lpM0 [.i x, .i y, .l I, .i (I.length : Int), .i 0, p, q, r, s, .l []] = [.i 0, .i (I.length : Int), .l (I.map (mvI x y))] := fun _ _ _ _ => by
          rw [← coll_map (mvI x y) I]; rfl
        simp only [takeD_zero, takeD_cons, List.getD_cons_zero, List.getD_cons_succ, Bool.false_eq_true, if_false, hlp]
        exact ⟨fun _ => hpre _ _ _ _, rfl⟩
      · simp only [if_true]
        rfl
  · simp only [beq_f h1, if_neg h1, if_true, Bool.not_false]
    rfl
end Go.Proofs.Ythpppbfiiphgoaa.rv
namespace Go.RV
theorem up_len (C : List (List D)) : ∀ (f : Nat) (c : Int), (up C f c).length ≤ f
  | 0, _ => Nat.le_refl _
  | f + 1, c => by
    rw [up]
    split
    · rw [List.length_cons]
      have := up_len C f (cI (el C c.toNat) 1)
      omega
    · simp
theorem depE_bd {g : Gd} {c : Int} (_h0 : -1 ≤ c) (h1 : c < 64) : 0 ≤ depE g c ∧ depE g c ≤ 65 := by
  unfold depE
  split
  · have := up_len g.C (c.toNat + 1) c
    unfold depth around
    omega
  · omega
theorem swp_all {p : Int → Prop} (h0 : p 0) {l : List Int} (h : ∀ c ∈ l, p c) (j : Nat) : ∀ c ∈ swp l j, p c := by
  have hg : ∀ i, p (l.getD i 0) := fun i => by
    by_cases hi : i < l.length
    · exact h _ (getD_mem 0 hi)
    · have e : l.getD i 0 = 0 := by simp [List.getD, List.getElem?_eq_none (by omega : l.length ≤ i)]
      rw [e]; exact h0
  intro c hc
  unfold swp at hc
  rcases List.mem_or_eq_of_mem_set hc with h1 | h1
  · rcases List.mem_or_eq_of_mem_set h1 with h2 | h2
    · exact h c h2
    · rw [h2]; exact hg _
  · rw [h1]; exact hg _
theorem bub_all {p : Int → Prop} (h0 : p 0) {k : Int → Int} : ∀ (j : Nat) (l : List Int), (∀ c ∈ l, p c) → ∀ c ∈ (bub k j l).2, p c
  | 0, l, h => h
  | j + 1, l, h => by
    rw [bub]
    split
    · exact bub_all h0 j _ (swp_all h0 h j)
    · exact h
theorem gOfC_clo (f : FuncId) (cts : List CT) (g : Gd) : gOfC (cloG f cts g) = g := rfl
theorem isrt_end {k : Int → Int} {n i : Nat} (h : n ≤ i) (l : List Int) : isrt k n i l = l := by
  unfold isrt foldN
  rw [List.drop_eq_nil_of_le (by simpa using h)]
  rfl
theorem isrt_next {k : Int → Int} {n i : Nat} (h : i < n) (l : List Int) : isrt k n i l = isrt k n (i + 1) (bub k i l).2 := by
  unfold isrt
  rw [fold_next h]
theorem idI_len (n : Nat) : (idI n).length = n := by simp [idI]
theorem dep_ok {g : Gd} (hv : validE g = 0) : ∀ x ∈ idI g.C.length, 1 ≤ kD g x ∧ kD g x ≤ 6 := by
  intro x hx
  unfold idI at hx
  rw [List.mem_map] at hx
  obtain ⟨i, hi, rfl⟩ := hx
  rw [List.mem_range] at hi
  have hc := (Go.Proofs.Ythpppbfiiphgoaa.rv.valid_parts hv).2.2.2.1 i hi
  unfold kD depE
  rw [if_pos ⟨hv, by omega, by omega⟩]
  refine ⟨depth_pos _ (by omega), ?_⟩
  unfold cluE at hc
  split at hc
  · split at hc
    · omega
    · split at hc
      · omega
      · split at hc
        · omega
        · omega
  · omega
theorem fil_coll (p : Int → Bool) (n : Nat) : collN (fun i => if p (i : Int) = true then [(i : Int)] else []) n 0 = (idI n).filter p := by
  unfold collN idI
  rw [List.drop_zero]
  generalize List.range n = l
  induction l with
  | nil => rfl
  | cons a l ih =>
    rw [List.flatMap_cons, ih, List.map_cons, List.filter_cons]
    split <;> simp
theorem ord_byKey (g : Gd) : ordD g = byKey (kD g) (idI g.C.length) 6 := by
  unfold ordD
  have e : ∀ d : Nat, collN (fun i => if (depE g (i : Int) == (d : Int)) = true then [(i : Int)] else []) g.C.length 0 = (idI g.C.length).filter fun x => kD g x == (d : Int) := fun d => fil_coll (fun x => depE g x == (d : Int)) _
  have e2 : (List.range 7).drop 1 = [1, 2, 3, 4, 5, 6] := rfl
  unfold collN at e ⊢
  rw [e2]
  simp only [List.flatMap_cons, List.flatMap_nil, e, byKey, List.nil_append, List.append_nil, List.append_assoc]
theorem srt_ord {g : Gd} (hv : validE g = 0) : isrt (kD g) g.C.length 1 (idI g.C.length) = ordD g := by
  rw [ord_byKey, ← isrt_all (dep_ok hv), idI_len]
end Go.RV
namespace Go.Proofs.Ythpppbfiiphgoaa.rv
set_option maxRecDepth 10000
open Go.RV
theorem m52 : Meets Try.prog 52 S52 (R 52) (F 52) := by
  refine meets_of_vt (pre := R) (Φ := F) mixed (sgAt_all (P := Try.prog) (pre := R) (Φ := F) (l := sg52) (List.forall_mem_cons.2 ⟨Meets.at (pre := R) (Φ := F) m53, (fun _ h => nomatch h)⟩)) Try.func52 b52 n52 (loops_n 0 k52 fun k hk => by omega) e52 fun ds hf hq => ?_
  obtain ⟨g, a, b, rfl, hv, ha, hb⟩ : prClp ds := hq
  have k1 := depE_bd (g := g) ha.1 ha.2
  have k2 := depE_bd (g := g) hb.1 hb.2
  have e1 : ∀ c : Int, depED [.s g.nm, .b g.dr, .l g.N, .l g.E, .l g.C, .i c] = [.i (depE g c)] := fun _ => rfl
  have e2 : IntKind.i64.wrap (depE g a - depE g b) = depE g a - depE g b := w64 (by omega)
  simp only [vt52, VT.ok, Nd.holds, X.outs, X.ds, X.d, Op2.ev, takeD_zero, takeD_cons, List.cons_append, List.nil_append, List.getD_cons_zero, List.getD_cons_succ, D.int_i, D.bool_b, implies_true, true_and, F53, R53, F52, D.ptd_p, Gd.ds, e1, e2]
  rfl
theorem m24004 : Meets Try.prog 24004 S24004 (R 24004) (F 24004) := by
  refine meets_dyn (by decide) rfl fun d ds hf hp => ?_
  obtain ⟨g, a, b, e, hv, ha, hb⟩ : dpDep 52 ctsG (d :: ds) := hp
  cases e
  exact ⟨52, [.pt ctsG], [.p g.ds], S52, _, F 52, rfl, by decide, m52, rfl, rfl, ⟨g, a, b, rfl, hv, ha, hb⟩, rfl⟩
theorem loopM85_1 : LoopMeets Try.prog F (R L85_1.key) L85_1 lb85_1 := by
  refine loop_meets (pre := R) mixed (sgAt_all (P := Try.prog) (pre := R) (Φ := F) (l := sg85) (List.forall_mem_cons.2 ⟨Meets.at (pre := R) (Φ := F) m24004, (fun _ h => nomatch h)⟩)) (loops_n 0 lk85_1 fun k hk => by omega) L85_1 (fun ρ => (ρ.getD 2 default).int.toNat) le85_1 fun ρ _ hq => ?_
  obtain ⟨g, l, j, rfl, hj, hv, hl, hb⟩ : prSr1 52 ctsG ρ := hq
  have hlp : ∀ (l : List Int) (j : Nat), lpSr1 [.i 0, cloG 52 ctsG g, .i (j : Int), .l (l.map encI)] = [.i 0, .i ((bub (kD g) j l).1 : Int), .l ((bub (kD g) j l).2.map encI)] := fun l j => by
    have e : lpSr1 [.i 0, cloG 52 ctsG g, .i (j : Int), .l (l.map encI)] = [.i 0, .i ((bub (kD g) j (lsI (l.map encI))).1 : Int), .l ((bub (kD g) j (lsI (l.map encI))).2.map encI)] := rfl
    rw [e, lsI_enc]
  cases j with
  | zero =>
    have c0 : decide ((0 : Int) < ((0 : Nat) : Int)) = false := rfl
    simp only [rt85_1, VT.ok, Nd.holds, X.outs, X.ds, X.d, Op1.ev, Op2.ev, List.cons_append, List.nil_append, List.getD_cons_zero, List.getD_cons_succ, D.int_i, D.bool_b, D.lst_l, Int.toNat_natCast, List.length_map, Bool.false_eq_true, if_false, true_and, false_implies, takeD1_0, c0]
    refine round_exit (by omega) ?_
    show lpSr1 _ = _
    rw [hlp]
    rfl
  | succ j =>
    have eX : (l.map encI).getD (j + 1) [] = [.i (l.getD (j + 1) 0)] := rowI hj
    have eY : (l.map encI).getD j [] = [.i (l.getD j 0)] := rowI (by omega)
    have eZ : ((l.set (j + 1) (l.getD j 0)).map encI).getD j [] = [.i ((l.set (j + 1) (l.getD j 0)).getD j 0)] := rowI (by rw [List.length_set]; omega)
    have hx := hb _ (getD_mem 0 hj)
    have hy := hb _ (getD_mem 0 (by omega : j < l.length))
    have c0 : decide ((0 : Int) < ((j + 1 : Nat) : Int)) = true := decide_eq_true (by omega)
    have c1 : decide ((0 : Int) ≤ ((j + 1 : Nat) : Int)) = true := decide_eq_true (by omega)
    have c2 : decide (((j + 1 : Nat) : Int) < (l.length : Int)) = true := decide_eq_true (by omega)
    have c3 : IntKind.i64.wrap (((j + 1 : Nat) : Int) - 1) = (j : Int) := by rw [w64 (by omega)]; omega
    have c4 : decide ((0 : Int) ≤ (j : Int)) = true := decide_eq_true (by omega)
    have c5 : decide ((j : Int) < (l.length : Int)) = true := decide_eq_true (by omega)
    have hdy : dyDep [cloG 52 ctsG g, .i (l.getD (j + 1) 0), .i (l.getD j 0)] = [.i (kD g (l.getD (j + 1) 0) - kD g (l.getD j 0))] := rfl
    have hdp : dpDep 52 ctsG [cloG 52 ctsG g, .i (l.getD (j + 1) 0), .i (l.getD j 0)] := ⟨g, _, _, rfl, hv, hx, hy⟩
    simp only [rt85_1, VT.ok, Nd.holds, X.outs, X.ds, X.d, Op1.ev, Op2.ev, takeD_zero, takeD_cons, List.cons_append, List.nil_append, List.getD_cons_zero, List.getD_cons_succ, D.int_i, D.bool_b, D.lst_l, Int.toNat_natCast, List.length_map, if_true, implies_true, true_and, F24004, R24004, c0, c1, c2, c3, c4, c5, eX, eY, hdy, splI, setI, eZ, List.length_set]
    refine ⟨fun _ => hdp, ?_⟩
    by_cases hk : kD g (l.getD (j + 1) 0) < kD g (l.getD j 0)
    · rw [decide_eq_true (by omega : kD g (l.getD (j + 1) 0) - kD g (l.getD j 0) < 0), if_pos rfl]
      refine round_next ⟨⟨g, swp l j, j, rfl, by rw [swp_len]; omega, hv, by rw [swp_len]; exact hl, swp_all (p := fun c => -1 ≤ c ∧ c < 64) (by omega) hb j⟩, ?_, ?_⟩
      · show ((j : Nat) : Int).toNat < ((j + 1 : Nat) : Int).toNat
        omega
      · show lpSr1 [.i 0, cloG 52 ctsG g, .i (j : Int), .l ((swp l j).map encI)] = lpSr1 [.i 0, cloG 52 ctsG g, .i ((j + 1 : Nat) : Int), .l (l.map encI)]
        rw [hlp, hlp, bub, if_pos hk]
    · rw [decide_eq_false (by omega : ¬ kD g (l.getD (j + 1) 0) - kD g (l.getD j 0) < 0), if_neg (by decide)]
      refine round_exit (by omega) ?_
      show lpSr1 _ = _
      rw [hlp, bub, if_neg hk]
theorem loopM85_0 : LoopMeets Try.prog F (R L85_0.key) L85_0 lb85_0 := by
  refine loop_meets (pre := R) mixed (sgAt_all (P := Try.prog) (pre := R) (Φ := F) (l := sg85) (List.forall_mem_cons.2 ⟨Meets.at (pre := R) (Φ := F) m24004, (fun _ h => nomatch h)⟩)) (loops_n 1 lk85_0 fun k hk => match k, hk with | 0, _ => by rw [li85_0_0]; exact loop_this lf85_1 loopM85_1) L85_0 (fun ρ => ((ρ.getD 1 default).int - (ρ.getD 3 default).int).toNat) le85_0 fun ρ _ hq => ?_
  obtain ⟨g, l, j, rfl, hj, hv, hl, hb⟩ : prSr0 52 ctsG ρ := hq
  have hlp : ∀ (l : List Int) (n j : Nat), lpSr0 [.i 0, .i (n : Int), cloG 52 ctsG g, .i (j : Int), .l (l.map encI)] = [.i 0, .i (max (n : Int) (j : Int)), .l ((isrt (kD g) n j l).map encI)] := fun l n j => by
    have e : lpSr0 [.i 0, .i (n : Int), cloG 52 ctsG g, .i (j : Int), .l (l.map encI)] = [.i 0, .i (max (n : Int) (j : Int)), .l ((isrt (kD g) n j (lsI (l.map encI))).map encI)] := rfl
    rw [e, lsI_enc]
  by_cases hlt : j < l.length
  · have h1 : lpSr1 [.i 0, cloG 52 ctsG g, .i (j : Int), .l (l.map encI)] = [.i 0, .i ((bub (kD g) j l).1 : Int), .l ((bub (kD g) j l).2.map encI)] := by
      have e : lpSr1 [.i 0, cloG 52 ctsG g, .i (j : Int), .l (l.map encI)] = [.i 0, .i ((bub (kD g) j (lsI (l.map encI))).1 : Int), .l ((bub (kD g) j (lsI (l.map encI))).2.map encI)] := rfl
      rw [e, lsI_enc]
    have hp : prSr1 52 ctsG [.i 0, cloG 52 ctsG g, .i (j : Int), .l (l.map encI)] := ⟨g, l, j, rfl, hlt, hv, hl, hb⟩
    have c0 : decide ((j : Int) < (l.length : Int)) = true := decide_eq_true (by omega)
    have c1 : IntKind.i64.wrap ((j : Int) + 1) = ((j + 1 : Nat) : Int) := nat_wrap (by omega)
    simp only [rt85_0, VT.ok, Nd.holds, X.outs, X.ds, X.d, Op2.ev, takeD_zero, takeD_cons, List.cons_append, List.nil_append, List.getD_cons_zero, List.getD_cons_succ, D.int_i, D.bool_b, if_true, F18500, R18500, c0, c1, h1]
    refine ⟨fun _ => hp, ?_⟩
    refine round_next ⟨⟨g, (bub (kD g) j l).2, j + 1, by rw [bub_len]; rfl, by omega, hv, by rw [bub_len]; exact hl, bub_all (p := fun c => -1 ≤ c ∧ c < 64) (by omega) j l hb⟩, ?_, ?_⟩
    · show ((l.length : Int) - ((j + 1 : Nat) : Int)).toNat < ((l.length : Int) - (j : Int)).toNat
      omega
    · show lpSr0 [.i 0, .i (l.length : Int), cloG 52 ctsG g, .i ((j + 1 : Nat) : Int), .l ((bub (kD g) j l).2.map encI)] = lpSr0 [.i 0, .i (l.length : Int), cloG 52 ctsG g, .i (j : Int), .l (l.map encI)]
      rw [hlp, hlp, isrt_next hlt, Int.max_eq_left (by omega), Int.max_eq_left (by omega)]
  · have c0 : decide ((j : Int) < (l.length : Int)) = false := decide_eq_false (by omega)
    simp only [rt85_0, VT.ok, Nd.holds, X.outs, X.ds, X.d, Op2.ev, List.cons_append, List.nil_append, List.getD_cons_zero, List.getD_cons_succ, D.int_i, D.bool_b, Bool.false_eq_true, if_false, c0]
    refine round_exit (by omega) ?_
    show lpSr0 [.i 0, .i (l.length : Int), cloG 52 ctsG g, .i (j : Int), .l (l.map encI)] = _
    rw [hlp, isrt_end (by omega), Int.max_eq_right (by omega)]
theorem srt_of (g : Gd) (f : FuncId) (cts : List CT) (l : List Int) : srt1 (cloG f cts g) (l.map encI) = .l ((isrt (kD g) l.length 1 l).map encI) := by
  unfold srt1
  rw [gOfC_clo, lsI_enc, List.length_map]
theorem m85 : MeetsRow Try.prog 85 S85 (qRow S85) (R 85) (F 85) := by
  refine meets_row (pre := R) (Φ := F) mixed (sgAt_all (P := Try.prog) (pre := R) (Φ := F) (l := sg85) (List.forall_mem_cons.2 ⟨Meets.at (pre := R) (Φ := F) m24004, (fun _ h => nomatch h)⟩)) Try.func85 b85 n85 (loops_n 2 k85 fun k hk => match k, hk with | 0, _ => loop_this lf85_0 loopM85_0 | 1, _ => loop_this lf85_1 loopM85_1) e85 rfl rfl rfl fun ds hf hq => ?_
  obtain ⟨g, l, rfl, hs⟩ : prIns 52 ctsG ds := hq
  have hval : insD [.l (l.map encI), .i 0, .i (l.length : Int), cloG 52 ctsG g] = [.l ((isrt (kD g) l.length 1 l).map encI)] := by
    show [srt1 (cloG 52 ctsG g) (l.map encI)] = _
    rw [srt_of]
  rw [show F 85 = insD from rfl, hval]
  have c1 : IntKind.i64.wrap ((0 : Int) + 1) = ((1 : Nat) : Int) := w64 (by omega)
  have hlp : lpSr0 [.i 0, .i (l.length : Int), cloG 52 ctsG g, .i ((1 : Nat) : Int), .l (l.map encI)] = [.i 0, .i (max (l.length : Int) ((1 : Nat) : Int)), .l ((isrt (kD g) l.length 1 l).map encI)] := by
    have e : lpSr0 [.i 0, .i (l.length : Int), cloG 52 ctsG g, .i ((1 : Nat) : Int), .l (l.map encI)] = [.i 0, .i (max (l.length : Int) ((1 : Nat) : Int)), .l ((isrt (kD g) l.length 1 (lsI (l.map encI))).map encI)] := rfl
    rw [e, lsI_enc]
  have hp : prSr0 52 ctsG [.i 0, .i (l.length : Int), cloG 52 ctsG g, .i ((1 : Nat) : Int), .l (l.map encI)] := ⟨g, l, 1, rfl, Nat.le_refl _, hs⟩
  simp only [vt85, VT.ok, Nd.holds, X.outs, X.ds, X.d, Op2.ev, takeD_zero, takeD_cons, List.cons_append, List.nil_append, List.getD_cons_zero, List.getD_cons_succ, D.int_i, D.bool_b, and_true, F18501, R18501, c1, hlp]
  exact fun _ => hp
theorem m86 : MeetsRow Try.prog 86 S86 (qRow S86) (R 86) (F 86) := meetsRow_none Try.func86 b86 n86
theorem loopM73_0 : LoopMeets Try.prog F (R L73_0.key) L73_0 lb73_0 := by
  refine loop_meets (pre := R) mixed (sgAt_all (P := Try.prog) (pre := R) (Φ := F) (l := sg73) (List.forall_mem_cons.2 ⟨MeetsRow.at (pre := R) (Φ := F) m85, List.forall_mem_cons.2 ⟨MeetsRow.at (pre := R) (Φ := F) m86, (fun _ h => nomatch h)⟩⟩)) (loops_n 0 lk73_0 fun k hk => by omega) L73_0 (fun ρ => 0) le73_0 fun ρ _ hq => ?_
  obtain ⟨n, c, x2, x3, xs, rfl, hn⟩ : prZ0 ρ := hq
  have c0 : decide ((20 : Int) ≤ (n : Int)) = false := decide_eq_false (by omega)
  simp only [rt73_0, VT.ok, Nd.holds, X.outs, X.ds, X.d, Op2.ev, List.cons_append, List.nil_append, List.getD_cons_zero, List.getD_cons_succ, D.int_i, D.bool_b, Bool.false_eq_true, if_false, takeD1_0, c0]
  exact round_exit (by omega) rfl
theorem loopM73_2 : LoopMeets Try.prog F (R L73_2.key) L73_2 lb73_2 := by
  refine loop_meets (pre := R) mixed (sgAt_all (P := Try.prog) (pre := R) (Φ := F) (l := sg73) (List.forall_mem_cons.2 ⟨MeetsRow.at (pre := R) (Φ := F) m85, List.forall_mem_cons.2 ⟨MeetsRow.at (pre := R) (Φ := F) m86, (fun _ h => nomatch h)⟩⟩)) (loops_n 0 lk73_2 fun k hk => by omega) L73_2 (fun ρ => 0) le73_2 fun ρ _ hq => ?_
  exact (show False from hq).elim
theorem loopM73_1 : LoopMeets Try.prog F (R L73_1.key) L73_1 lb73_1 := by
  refine loop_meets (pre := R) mixed (sgAt_all (P := Try.prog) (pre := R) (Φ := F) (l := sg73) (List.forall_mem_cons.2 ⟨MeetsRow.at (pre := R) (Φ := F) m85, List.forall_mem_cons.2 ⟨MeetsRow.at (pre := R) (Φ := F) m86, (fun _ h => nomatch h)⟩⟩)) (loops_n 1 lk73_1 fun k hk => match k, hk with | 0, _ => by rw [li73_1_0]; exact loop_this lf73_2 loopM73_2) L73_1 (fun ρ => 0) le73_1 fun ρ _ hq => ?_
  obtain ⟨n, c, xs, rfl, hn⟩ : prZ1 ρ := hq
  have c0 : decide ((20 : Int) < (n : Int)) = false := decide_eq_false (by omega)
  simp only [rt73_1, VT.ok, Nd.holds, X.outs, X.ds, X.d, Op2.ev, List.cons_append, List.nil_append, List.getD_cons_zero, List.getD_cons_succ, D.int_i, D.bool_b, Bool.false_eq_true, if_false, c0]
  exact round_exit (by omega) rfl
theorem m73 : MeetsRow Try.prog 73 S73 (qRow S73) (R 73) (F 73) := by
  refine meets_row (pre := R) (Φ := F) mixed (sgAt_all (P := Try.prog) (pre := R) (Φ := F) (l := sg73) (List.forall_mem_cons.2 ⟨MeetsRow.at (pre := R) (Φ := F) m85, List.forall_mem_cons.2 ⟨MeetsRow.at (pre := R) (Φ := F) m86, (fun _ h => nomatch h)⟩⟩)) Try.func73 b73 n73 (loops_n 3 k73 fun k hk => match k, hk with | 0, _ => loop_this lf73_0 loopM73_0 | 1, _ => loop_this lf73_1 loopM73_1 | 2, _ => loop_this lf73_2 loopM73_2) e73 rfl rfl rfl fun ds hf hq => ?_
  obtain ⟨g, l, rfl, hs⟩ : prStb 52 ctsG ds := hq
  have hn : l.length < 20 := by have := hs.2.1; omega
  have hz0 : ∀ x2 x3 x4 x5 x6 : D, lpZ0 [x2, x3, x4, x5, x6, .l (l.map encI)] = [.i 0, x5, x6, .l (l.map encI)] := fun _ _ _ _ _ => rfl
  have hz1 : ∀ (x2 x3 x4 : D) (xs : List (List D)), lpZ1 [x2, x3, x4, .l xs] = [.i 0, x4, .l xs] := fun _ _ _ _ => rfl
  have hval : stbD [.l (l.map encI), .i (l.length : Int), cloG 52 ctsG g] = [.l ((isrt (kD g) l.length 1 l).map encI)] := by
    show [srt1 (cloG 52 ctsG g) (l.map encI)] = _
    rw [srt_of]
  have hins : insD [.l (l.map encI), .i 0, .i (l.length : Int), cloG 52 ctsG g] = [.l ((isrt (kD g) l.length 1 l).map encI)] := by
    show [srt1 (cloG 52 ctsG g) (l.map encI)] = _
    rw [srt_of]
  have hp0 : prZ0 [.i (l.length : Int), cloG 52 ctsG g, .i 20, .i 0, .i 20, .l (l.map encI)] := ⟨l.length, _, _, _, _, rfl, hn⟩
  have hp1 : prZ1 [.i (l.length : Int), cloG 52 ctsG g, .i 20, .l ((isrt (kD g) l.length 1 l).map encI)] := ⟨l.length, _, _, rfl, hn⟩
  have hpi : prIns 52 ctsG [.l (l.map encI), .i 0, .i (l.length : Int), cloG 52 ctsG g] := ⟨g, l, rfl, hs⟩
  rw [show F 73 = stbD from rfl, hval]
  simp only [vt73, VT.ok, Nd.holds, X.outs, X.ds, X.d, takeD_zero, takeD_cons, List.cons_append, List.nil_append, List.getD_cons_zero, List.getD_cons_succ, D.bool_b, and_true, F85, R85, F17300, R17300, F17302, R17302, hz0, hins, hz1]
  exact ⟨fun _ => hp0, fun _ => hpi, fun _ => hp1⟩
theorem m51 : MeetsRow Try.prog 51 S51 (qRow S51) (R 51) (F 51) := by
  refine meets_row (pre := R) (Φ := F) mixed (sgAt_all (P := Try.prog) (pre := R) (Φ := F) (l := sg51) (List.forall_mem_cons.2 ⟨MeetsRow.at (pre := R) (Φ := F) m73, (fun _ h => nomatch h)⟩)) Try.func51 b51 n51 (loops_n 0 k51 fun k hk => by omega) e51 rfl rfl rfl fun ds hf hq => ?_
  obtain ⟨g, l, rfl, hs⟩ : prSt 52 ctsG ds := hq
  have hpi : prStb 52 ctsG [.l (l.map encI), .i (l.length : Int), cloG 52 ctsG g] := ⟨g, l, rfl, hs⟩
  simp only [vt51, VT.ok, Nd.holds, X.outs, X.ds, X.d, Op1.ev, List.cons_append, List.nil_append, List.getD_cons_zero, List.getD_cons_succ, D.bool_b, D.lst_l, List.length_map, takeD1_0, F73, R73, F51]
  exact ⟨fun _ => hpi, rfl⟩
theorem idI_snoc (j : Nat) : (idI j).map encI ++ [[.i (j : Int)]] = (idI (j + 1)).map encI := by
  simp [idI, List.range_succ, encI]
theorem loopM31_0 : LoopMeets Try.prog F (R L31_0.key) L31_0 lb31_0 := by
  refine loop_meets (pre := R) mixed (sgAt_all (P := Try.prog) (pre := R) (Φ := F) (l := sg31) (List.forall_mem_cons.2 ⟨MeetsRow.at (pre := R) (Φ := F) m51, (fun _ h => nomatch h)⟩)) (loops_n 0 lk31_0 fun k hk => by omega) L31_0 (fun ρ => ((ρ.getD 0 default).int - (ρ.getD 1 default).int).toNat) le31_0 fun ρ _ hq => ?_
  obtain ⟨n, j, rfl, hj, hn⟩ : prId ρ := hq
  by_cases hlt : j < n
  · have c0 : decide ((j : Int) < (n : Int)) = true := decide_eq_true (by omega)
    have c1 : IntKind.i64.wrap ((j : Int) + 1) = ((j + 1 : Nat) : Int) := nat_wrap (by omega)
    have c2 : decide ((((idI (j + 1)).length : Nat) : Int) ≤ 17592186044416) = true := decide_eq_true (by rw [idI_len]; omega)
    simp only [rt31_0, VT.ok, Nd.holds, X.ds, X.d, Op1.ev, Op2.ev, List.getD_cons_zero, List.getD_cons_succ, D.int_i, D.bool_b, D.lst_l, List.length_map, if_true, implies_true, true_and, c0, c1, idI_snoc, c2]
    refine round_next ⟨⟨n, j + 1, rfl, by omega, hn⟩, ?_, rfl⟩
    show ((n : Int) - ((j + 1 : Nat) : Int)).toNat < ((n : Int) - (j : Int)).toNat
    omega
  · have hj' : j = n := by omega
    subst hj'
    have c0 : decide ((j : Int) < (j : Int)) = false := decide_eq_false (by omega)
    simp only [rt31_0, VT.ok, Nd.holds, X.ds, X.d, Op1.ev, Op2.ev, List.getD_cons_zero, List.getD_cons_succ, D.int_i, D.bool_b, D.lst_l, Bool.false_eq_true, if_false, c0]
    exact round_exit (by omega) rfl
theorem m31 : Meets Try.prog 31 S31 (R 31) (F 31) := by
  refine meets_of_vt (pre := R) (Φ := F) mixed (sgAt_all (P := Try.prog) (pre := R) (Φ := F) (l := sg31) (List.forall_mem_cons.2 ⟨MeetsRow.at (pre := R) (Φ := F) m51, (fun _ h => nomatch h)⟩)) Try.func31 b31 n31 (loops_n 1 k31 fun k hk => match k, hk with | 0, _ => loop_this lf31_0 loopM31_0) e31 fun ds hf hq => ?_
  obtain ⟨g, ds', rfl, h5, _⟩ := fitsG hf.flat
  have e0 := fits0 h5
  subst e0
  have hv : validE g = 0 := hq
  have hC := (valid_parts hv).1.2.2
  have hval : grpsD [.s g.nm, .b g.dr, .l g.N, .l g.E, .l g.C] = [.l ((ordD g).map encI)] := rfl
  have hp : prId [.i (g.C.length : Int), .i 0, .l []] := ⟨g.C.length, 0, rfl, by omega, hC⟩
  have hlp : lpId [.i (g.C.length : Int), .i 0, .l []] = [.i 0, .i (g.C.length : Int), .l ((idI g.C.length).map encI)] := rfl
  have hclo : D.c 52 [.pt ctsG] [.p [.s g.nm, .b g.dr, .l g.N, .l g.E, .l g.C]] = cloG 52 ctsG g := rfl
  have hps : prSt 52 ctsG [.l ((idI g.C.length).map encI), cloG 52 ctsG g] := ⟨g, idI g.C.length, rfl, hv, by rw [idI_len]; exact hC, fun c hc => by
    unfold idI at hc
    rw [List.mem_map] at hc
    obtain ⟨i, hi, rfl⟩ := hc
    rw [List.mem_range] at hi
    omega⟩
  have hsr : srtD [.l ((idI g.C.length).map encI), cloG 52 ctsG g] = [.l ((ordD g).map encI)] := by
    show [srt1 (cloG 52 ctsG g) ((idI g.C.length).map encI)] = _
    rw [srt_of, idI_len, srt_ord hv]
  rw [show F 31 = grpsD from rfl, show (D.s g.nm :: .b g.dr :: .l g.N :: .l g.E :: .l g.C :: []) = [.s g.nm, .b g.dr, .l g.N, .l g.E, .l g.C] from rfl, hval]
  simp only [vt31, VT.ok, Nd.holds, X.outs, X.ds, X.d, Op1.ev, takeD_zero, takeD_cons, List.cons_append, List.nil_append, List.getD_cons_zero, List.getD_cons_succ, D.bool_b, D.lst_l, takeD1_0, F51, R51, F13100, R13100, hlp]
  refine ⟨fun _ => hp, ?_⟩
  show (True → prSt 52 ctsG [.l ((idI g.C.length).map encI), cloG 52 ctsG g]) ∧ srtD [.l ((idI g.C.length).map encI), cloG 52 ctsG g] = _
  exact ⟨fun _ => hps, hsr⟩
end Go.Proofs.Ythpppbfiiphgoaa.rv
namespace Go.RV
theorem lItem_len (N : List (List D)) (k : Nat) (b : List (List D)) (i : Nat) : (lItem N k b i).length ≤ 1 := by unfold lItem; split <;> simp
theorem mItem_len (E b : List (List D)) (i : Nat) : (mItem E b i).length ≤ 1 := by unfold mItem; split <;> simp
end Go.RV
namespace Go.Proofs.Ythpppbfiiphgoaa.rv
set_option maxRecDepth 10000
open Go.RV
theorem loopM15_0 : LoopMeets Try.prog F (R L15_0.key) L15_0 lb15_0 := by
  refine loop_meets (pre := R) mixed (sgAt_all (P := Try.prog) (pre := R) (Φ := F) (l := sg15) (List.forall_mem_cons.2 ⟨Meets.at (pre := R) (Φ := F) m30, List.forall_mem_cons.2 ⟨Meets.at (pre := R) (Φ := F) m31, List.forall_mem_cons.2 ⟨Meets.at (pre := R) (Φ := F) m32, List.forall_mem_cons.2 ⟨Meets.at (pre := R) (Φ := F) m13, List.forall_mem_cons.2 ⟨Meets.at (pre := R) (Φ := F) m11, (fun _ h => nomatch h)⟩⟩⟩⟩⟩)) (loops_n 0 lk15_0 fun k hk => by omega) L15_0 (fun ρ => ((ρ.getD 1 default).int - (ρ.getD 2 default).int).toNat) le15_0 fun ρ _ hq => ?_
  obtain ⟨x3, x5, x6, x7, x8, x9, x10, x11, x12, x13, x14, x15, x16, x17, o, c, acc, j, rfl, hj, hm, ha, ho⟩ : prB0 ρ := hq
  by_cases hlt : j < o.length
  · have hn : ∀ acc' : List (List D), acc ++ [gItem c (cI (el o j) 0)] = acc' → RoundOk F (R L15_0.key) (fun ρ => ((ρ.getD 1 default).int - (ρ.getD 2 default).int).toNat) L15_0 [.l o, .i (o.length : Int), .i (j : Int), x3, .l c, x5, x6, x7, x8, x9, x10, x11, x12, x13, x14, x15, x16, x17, .l acc] [.i (-1), .i ((j + 1 : Nat) : Int), .l acc'] := fun acc' h => by
      subst h
      refine round_next ⟨⟨x3, x5, x6, x7, x8, x9, x10, x11, x12, x13, x14, x15, x16, x17, o, c, acc ++ [gItem c (cI (el o j) 0)], j + 1, rfl, by omega, hm, by rw [List.length_append]; simp only [List.length_cons, List.length_nil]; omega, ho⟩, ?_, ?_⟩
      · show ((o.length : Int) - ((j + 1 : Nat) : Int)).toNat < ((o.length : Int) - (j : Int)).toNat
        omega
      · show lpG (fun i => [gItem c (cI (el o i) 0)]) o.length (j + 1) (acc ++ [gItem c (cI (el o j) 0)]) = lpG (fun i => [gItem c (cI (el o i) 0)]) o.length j acc
        unfold lpG
        rw [coll_next (f := (fun i => [gItem c (cI (el o i) 0)])) hlt acc]
    have c0 : decide ((j : Int) < (o.length : Int)) = true := decide_eq_true (by omega)
    have c1 : decide ((0 : Int) ≤ (j : Int)) = true := decide_eq_true (by omega)
    have c2 : IntKind.i64.wrap ((j : Int) + 1) = ((j + 1 : Nat) : Int) := nat_wrap (by omega)
    have c4 : ∀ z : List D, decide ((((acc ++ [z]).length : Nat) : Int) ≤ 1599289640401) = true := fun z => decide_eq_true (by rw [List.length_append, List.length_cons, List.length_nil]; omega)
    obtain ⟨e0, e1, e2⟩ := ho j hlt
    have e0' : (o.getD j []).getD 0 default = .i (cI (el o j) 0) := e0
    have hg : gItem c (cI (el o j) 0) = gItem c (cI (el o j) 0) := rfl
    generalize cI (el o j) 0 = i at e0' e1 e2 hn
    have c5 : decide ((0 : Int) ≤ i) = true := decide_eq_true e1
    have c6 : decide (i < (c.length : Int)) = true := decide_eq_true e2
    simp only [rt15_0, VT.ok, Nd.holds, X.ds, X.d, Op1.ev, Op2.ev, List.getD_cons_zero, List.getD_cons_succ, D.int_i, D.bool_b, D.lst_l, Int.toNat_natCast, if_true, implies_true, true_and, c0, c1, c2, c4, e0', c5, c6]
    exact hn _ rfl
  · have hj' : o.length = j := by omega
    subst hj'
    have c0 : decide ((o.length : Int) < (o.length : Int)) = false := decide_eq_false (by omega)
    simp only [rt15_0, VT.ok, Nd.holds, X.ds, X.d, Op1.ev, Op2.ev, List.getD_cons_zero, List.getD_cons_succ, D.int_i, D.bool_b, D.lst_l, Int.toNat_natCast, Bool.false_eq_true, if_false, c0]
    refine round_exit (by omega) ?_
    show lpG (fun i => [gItem c (cI (el o i) 0)]) o.length o.length acc = _
    unfold lpG
    rw [coll_end]
    try rfl
theorem loopM15_1 : LoopMeets Try.prog F (R L15_1.key) L15_1 lb15_1 := by
  refine loop_meets (pre := R) mixed (sgAt_all (P := Try.prog) (pre := R) (Φ := F) (l := sg15) (List.forall_mem_cons.2 ⟨Meets.at (pre := R) (Φ := F) m30, List.forall_mem_cons.2 ⟨Meets.at (pre := R) (Φ := F) m31, List.forall_mem_cons.2 ⟨Meets.at (pre := R) (Φ := F) m32, List.forall_mem_cons.2 ⟨Meets.at (pre := R) (Φ := F) m13, List.forall_mem_cons.2 ⟨Meets.at (pre := R) (Φ := F) m11, (fun _ h => nomatch h)⟩⟩⟩⟩⟩)) (loops_n 0 lk15_1 fun k hk => by omega) L15_1 (fun ρ => ((ρ.getD 0 default).int - (ρ.getD 1 default).int).toNat) le15_1 fun ρ _ hq => ?_
  obtain ⟨x2, x3, x5, x6, x7, x8, x9, x10, x11, x12, x13, x14, x15, x16, n, r, acc, j, rfl, hj, hm, ha, hl, hp⟩ : prB1 ρ := hq
  by_cases hlt : j < n
  · have hn : ∀ acc' : List (List D), acc ++ [rItem r j] = acc' → RoundOk F (R L15_1.key) (fun ρ => ((ρ.getD 0 default).int - (ρ.getD 1 default).int).toNat) L15_1 [.i (n : Int), .i (j : Int), x2, x3, .l r, x5, x6, x7, x8, x9, x10, x11, x12, x13, x14, x15, x16, .l acc] [.i (-1), .i ((j + 1 : Nat) : Int), .l acc'] := fun acc' h => by
      subst h
      refine round_next ⟨⟨x2, x3, x5, x6, x7, x8, x9, x10, x11, x12, x13, x14, x15, x16, n, r, acc ++ [rItem r j], j + 1, rfl, by omega, hm, by rw [List.length_append]; simp only [List.length_cons, List.length_nil]; omega, hl, hp⟩, ?_, ?_⟩
      · show ((n : Int) - ((j + 1 : Nat) : Int)).toNat < ((n : Int) - (j : Int)).toNat
        omega
      · show lpG (fun i => [rItem r i]) n (j + 1) (acc ++ [rItem r j]) = lpG (fun i => [rItem r i]) n j acc
        unfold lpG
        rw [coll_next (f := (fun i => [rItem r i])) hlt acc]
    have c0 : decide ((j : Int) < (n : Int)) = true := decide_eq_true (by omega)
    have c1 : decide ((0 : Int) ≤ (j : Int)) = true := decide_eq_true (by omega)
    have c2 : IntKind.i64.wrap ((j : Int) + 1) = ((j + 1 : Nat) : Int) := nat_wrap (by omega)
    have c4 : ∀ z : List D, decide ((((acc ++ [z]).length : Nat) : Int) ≤ 1599289640401) = true := fun z => decide_eq_true (by rw [List.length_append, List.length_cons, List.length_nil]; omega)
    obtain ⟨e0, e1⟩ := hp j (by omega)
    have e0' : (r.getD j []).getD 0 default = .l (cL (el r j) 0) := e0
    have hr : rItem r j = [.i 3, .i (j : Int), .i 0, .i 0, .i 0, .i 0, .l (cL (el r j) 0), .s ⟨#[]⟩] := rfl
    rw [hr] at hn
    generalize cL (el r j) 0 = ps at e0' e1 hn
    have c5 : decide ((j : Int) < (r.length : Int)) = true := decide_eq_true (by omega)
    have hcl : ∀ xs, cloneD [.l xs] = [.l xs] := fun _ => rfl
    simp only [rt15_1, VT.ok, Nd.holds, X.outs, X.ds, X.d, Op1.ev, Op2.ev, takeD_zero, takeD_cons, List.cons_append, List.nil_append, List.getD_cons_zero, List.getD_cons_succ, D.int_i, D.bool_b, D.lst_l, Int.toNat_natCast, if_true, implies_true, true_and, F32, R32, c0, c1, c2, c4, c5, e0', hcl]
    exact ⟨fun _ => ⟨ps, rfl, e1⟩, hn _ rfl⟩
  · have hj' : n = j := by omega
    subst hj'
    have c0 : decide ((n : Int) < (n : Int)) = false := decide_eq_false (by omega)
    simp only [rt15_1, VT.ok, Nd.holds, X.outs, X.ds, X.d, Op1.ev, Op2.ev, List.cons_append, List.nil_append, List.getD_cons_zero, List.getD_cons_succ, D.int_i, D.bool_b, D.lst_l, Int.toNat_natCast, Bool.false_eq_true, if_false, takeD1_0, c0]
    refine round_exit (by omega) ?_
    show lpG (fun i => [rItem r i]) n n acc = _
    unfold lpG
    rw [coll_end]
    try rfl
theorem loopM15_2 : LoopMeets Try.prog F (R L15_2.key) L15_2 lb15_2 := by
  refine loop_meets (pre := R) mixed (sgAt_all (P := Try.prog) (pre := R) (Φ := F) (l := sg15) (List.forall_mem_cons.2 ⟨Meets.at (pre := R) (Φ := F) m30, List.forall_mem_cons.2 ⟨Meets.at (pre := R) (Φ := F) m31, List.forall_mem_cons.2 ⟨Meets.at (pre := R) (Φ := F) m32, List.forall_mem_cons.2 ⟨Meets.at (pre := R) (Φ := F) m13, List.forall_mem_cons.2 ⟨Meets.at (pre := R) (Φ := F) m11, (fun _ h => nomatch h)⟩⟩⟩⟩⟩)) (loops_n 0 lk15_2 fun k hk => by omega) L15_2 (fun ρ => ((ρ.getD 0 default).int - (ρ.getD 1 default).int).toNat) le15_2 fun ρ _ hq => ?_
  obtain ⟨x3, x4, x5, x6, x7, x8, x9, x10, x11, x12, x13, x14, x15, x16, n, b, acc, j, rfl, hj, hm, ha, hl⟩ : prB2 ρ := hq
  by_cases hlt : j < n
  · have hn : ∀ acc' : List (List D), acc ++ [nItem b j] = acc' → RoundOk F (R L15_2.key) (fun ρ => ((ρ.getD 0 default).int - (ρ.getD 1 default).int).toNat) L15_2 [.i (n : Int), .i (j : Int), .l b, x3, x4, x5, x6, x7, x8, x9, x10, x11, x12, x13, x14, x15, x16, .l acc] [.i (-1), .i ((j + 1 : Nat) : Int), .l acc'] := fun acc' h => by
      subst h
      refine round_next ⟨⟨x3, x4, x5, x6, x7, x8, x9, x10, x11, x12, x13, x14, x15, x16, n, b, acc ++ [nItem b j], j + 1, rfl, by omega, hm, by rw [List.length_append]; simp only [List.length_cons, List.length_nil]; omega, hl⟩, ?_, ?_⟩
      · show ((n : Int) - ((j + 1 : Nat) : Int)).toNat < ((n : Int) - (j : Int)).toNat
        omega
      · show lpG (fun i => [nItem b i]) n (j + 1) (acc ++ [nItem b j]) = lpG (fun i => [nItem b i]) n j acc
        unfold lpG
        rw [coll_next (f := (fun i => [nItem b i])) hlt acc]
    have c0 : decide ((j : Int) < (n : Int)) = true := decide_eq_true (by omega)
    have c1 : decide ((0 : Int) ≤ (j : Int)) = true := decide_eq_true (by omega)
    have c2 : IntKind.i64.wrap ((j : Int) + 1) = ((j + 1 : Nat) : Int) := nat_wrap (by omega)
    have c4 : ∀ z : List D, decide ((((acc ++ [z]).length : Nat) : Int) ≤ 1599289640401) = true := fun z => decide_eq_true (by rw [List.length_append, List.length_cons, List.length_nil]; omega)
    have c5 : decide ((j : Int) < (b.length : Int)) = true := decide_eq_true (by omega)
    simp only [rt15_2, VT.ok, Nd.holds, X.ds, X.d, Op1.ev, Op2.ev, List.getD_cons_zero, List.getD_cons_succ, D.int_i, D.bool_b, D.lst_l, Int.toNat_natCast, if_true, implies_true, true_and, c0, c1, c2, c4, c5]
    exact hn _ rfl
  · have hj' : n = j := by omega
    subst hj'
    have c0 : decide ((n : Int) < (n : Int)) = false := decide_eq_false (by omega)
    simp only [rt15_2, VT.ok, Nd.holds, X.ds, X.d, Op1.ev, Op2.ev, List.getD_cons_zero, List.getD_cons_succ, D.int_i, D.bool_b, D.lst_l, Int.toNat_natCast, Bool.false_eq_true, if_false, c0]
    refine round_exit (by omega) ?_
    show lpG (fun i => [nItem b i]) n n acc = _
    unfold lpG
    rw [coll_end]
    try rfl
theorem loopM15_3 : LoopMeets Try.prog F (R L15_3.key) L15_3 lb15_3 := by
  refine loop_meets (pre := R) mixed (sgAt_all (P := Try.prog) (pre := R) (Φ := F) (l := sg15) (List.forall_mem_cons.2 ⟨Meets.at (pre := R) (Φ := F) m30, List.forall_mem_cons.2 ⟨Meets.at (pre := R) (Φ := F) m31, List.forall_mem_cons.2 ⟨Meets.at (pre := R) (Φ := F) m32, List.forall_mem_cons.2 ⟨Meets.at (pre := R) (Φ := F) m13, List.forall_mem_cons.2 ⟨Meets.at (pre := R) (Φ := F) m11, (fun _ h => nomatch h)⟩⟩⟩⟩⟩)) (loops_n 0 lk15_3 fun k hk => by omega) L15_3 (fun ρ => ((ρ.getD 1 default).int - (ρ.getD 2 default).int).toNat) le15_3 fun ρ _ hq => ?_
  obtain ⟨x4, x5, x6, x7, x8, x9, x10, x11, x12, x13, x14, x15, x16, x17, N, b, acc, j, rfl, hj, hm, ha, hl⟩ : prB3 ρ := hq
  by_cases hlt : j < N.length
  · have hn : ∀ acc' : List (List D), acc ++ (lItem N 1 b) j = acc' → RoundOk F (R L15_3.key) (fun ρ => ((ρ.getD 1 default).int - (ρ.getD 2 default).int).toNat) L15_3 [.l N, .i (N.length : Int), .i (j : Int), .l b, x4, x5, x6, x7, x8, x9, x10, x11, x12, x13, x14, x15, x16, x17, .l acc] [.i (-1), .i ((j + 1 : Nat) : Int), .l acc'] := fun acc' h => by
      subst h
      refine round_next ⟨⟨x4, x5, x6, x7, x8, x9, x10, x11, x12, x13, x14, x15, x16, x17, N, b, acc ++ (lItem N 1 b) j, j + 1, rfl, by omega, hm, by rw [List.length_append]; have := lItem_len N 1 b j; omega, hl⟩, ?_, ?_⟩
      · show ((N.length : Int) - ((j + 1 : Nat) : Int)).toNat < ((N.length : Int) - (j : Int)).toNat
        omega
      · show lpG (lItem N 1 b) N.length (j + 1) (acc ++ (lItem N 1 b) j) = lpG (lItem N 1 b) N.length j acc
        unfold lpG
        rw [coll_next (f := (lItem N 1 b)) hlt acc]
    have c0 : decide ((j : Int) < (N.length : Int)) = true := decide_eq_true (by omega)
    have c1 : decide ((0 : Int) ≤ (j : Int)) = true := decide_eq_true (by omega)
    have c2 : IntKind.i64.wrap ((j : Int) + 1) = ((j + 1 : Nat) : Int) := nat_wrap (by omega)
    have c4 : ∀ z : List D, decide ((((acc ++ [z]).length : Nat) : Int) ≤ 1599289640401) = true := fun z => decide_eq_true (by rw [List.length_append, List.length_cons, List.length_nil]; omega)
    have c5 : decide ((j : Int) < (b.length : Int)) = true := decide_eq_true (by omega)
    have hT : lItem N 1 b j = if (!(cS (el N j) 1 == ⟨#[]⟩)) = true then [tItem b j ((el N j).getD 1 default)] else [] := rfl
    cases hb : (!(cS (el N j) 1 == ⟨#[]⟩))
    · have hb' : (!(((N.getD j []).getD 1 default).str == ⟨#[]⟩)) = false := hb
      rw [hb, if_neg (by decide)] at hT
      simp only [rt15_3, VT.ok, Nd.holds, X.ds, X.d, Op1.ev, Op2.ev, List.getD_cons_zero, List.getD_cons_succ, D.int_i, D.bool_b, D.lst_l, D.str_s, Int.toNat_natCast, if_true, Bool.false_eq_true, if_false, implies_true, true_and, c0, c1, c2, c4, c5, hb']
      exact hn acc (by rw [hT, List.append_nil])
    · have hb' : (!(((N.getD j []).getD 1 default).str == ⟨#[]⟩)) = true := hb
      rw [hb, if_pos rfl] at hT
      simp only [rt15_3, VT.ok, Nd.holds, X.ds, X.d, Op1.ev, Op2.ev, List.getD_cons_zero, List.getD_cons_succ, D.int_i, D.bool_b, D.lst_l, D.str_s, Int.toNat_natCast, if_true, implies_true, true_and, c0, c1, c2, c4, c5, hb']
      exact hn _ (by rw [hT]; rfl)
  · have hj' : N.length = j := by omega
    subst hj'
    have c0 : decide ((N.length : Int) < (N.length : Int)) = false := decide_eq_false (by omega)
    simp only [rt15_3, VT.ok, Nd.holds, X.ds, X.d, Op1.ev, Op2.ev, List.getD_cons_zero, List.getD_cons_succ, D.int_i, D.bool_b, D.lst_l, D.str_s, Int.toNat_natCast, Bool.false_eq_true, if_false, c0]
    refine round_exit (by omega) ?_
    show lpG (lItem N 1 b) N.length N.length acc = _
    unfold lpG
    rw [coll_end]
    try rfl
theorem loopM15_4 : LoopMeets Try.prog F (R L15_4.key) L15_4 lb15_4 := by
  refine loop_meets (pre := R) mixed (sgAt_all (P := Try.prog) (pre := R) (Φ := F) (l := sg15) (List.forall_mem_cons.2 ⟨Meets.at (pre := R) (Φ := F) m30, List.forall_mem_cons.2 ⟨Meets.at (pre := R) (Φ := F) m31, List.forall_mem_cons.2 ⟨Meets.at (pre := R) (Φ := F) m32, List.forall_mem_cons.2 ⟨Meets.at (pre := R) (Φ := F) m13, List.forall_mem_cons.2 ⟨Meets.at (pre := R) (Φ := F) m11, (fun _ h => nomatch h)⟩⟩⟩⟩⟩)) (loops_n 0 lk15_4 fun k hk => by omega) L15_4 (fun ρ => ((ρ.getD 1 default).int - (ρ.getD 2 default).int).toNat) le15_4 fun ρ _ hq => ?_
  obtain ⟨x3, x4, x5, x7, x8, x9, x10, x11, x12, x13, x14, x15, x16, x17, N, b, acc, j, rfl, hj, hm, ha, hl⟩ : prB4 ρ := hq
  by_cases hlt : j < N.length
  · have hn : ∀ acc' : List (List D), acc ++ (mItem N b) j = acc' → RoundOk F (R L15_4.key) (fun ρ => ((ρ.getD 1 default).int - (ρ.getD 2 default).int).toNat) L15_4 [.l N, .i (N.length : Int), .i (j : Int), x3, x4, x5, .l b, x7, x8, x9, x10, x11, x12, x13, x14, x15, x16, x17, .l acc] [.i (-1), .i ((j + 1 : Nat) : Int), .l acc'] := fun acc' h => by
      subst h
      refine round_next ⟨⟨x3, x4, x5, x7, x8, x9, x10, x11, x12, x13, x14, x15, x16, x17, N, b, acc ++ (mItem N b) j, j + 1, rfl, by omega, hm, by rw [List.length_append]; have := mItem_len N b j; omega, hl⟩, ?_, ?_⟩
      · show ((N.length : Int) - ((j + 1 : Nat) : Int)).toNat < ((N.length : Int) - (j : Int)).toNat
        omega
      · show lpG (mItem N b) N.length (j + 1) (acc ++ (mItem N b) j) = lpG (mItem N b) N.length j acc
        unfold lpG
        rw [coll_next (f := (mItem N b)) hlt acc]
    have c0 : decide ((j : Int) < (N.length : Int)) = true := decide_eq_true (by omega)
    have c1 : decide ((0 : Int) ≤ (j : Int)) = true := decide_eq_true (by omega)
    have c2 : IntKind.i64.wrap ((j : Int) + 1) = ((j + 1 : Nat) : Int) := nat_wrap (by omega)
    have c4 : ∀ z : List D, decide ((((acc ++ [z]).length : Nat) : Int) ≤ 1599289640401) = true := fun z => decide_eq_true (by rw [List.length_append, List.length_cons, List.length_nil]; omega)
    have c5 : decide ((j : Int) < (b.length : Int)) = true := decide_eq_true (by omega)
    have hT : mItem N b j = if (!(cS (el N j) 4 == ⟨#[]⟩) && !sameQ (rQ (el b j) 0) z4) = true then [tItem b j ((el N j).getD 4 default)] else [] := rfl
    cases hb : (!(cS (el N j) 4 == ⟨#[]⟩) && !sameQ (rQ (el b j) 0) z4)
    · have hb' : (!(((N.getD j []).getD 4 default).str == ⟨#[]⟩) && !((((b.getD j []).getD 0 default).int == 0) && ((((b.getD j []).getD 1 default).int == 0) && ((((b.getD j []).getD 2 default).int == 0) && (((b.getD j []).getD 3 default).int == 0))))) = false := hb
      rw [hb, if_neg (by decide)] at hT
      simp only [rt15_4, VT.ok, Nd.holds, X.ds, X.d, Op1.ev, Op2.ev, List.getD_cons_zero, List.getD_cons_succ, D.int_i, D.bool_b, D.lst_l, D.str_s, ite_b, ite_and, Int.toNat_natCast, if_true, Bool.false_eq_true, if_false, implies_true, true_and, c0, c1, c2, c4, c5, hb']
      exact hn acc (by rw [hT, List.append_nil])
    · have hb' : (!(((N.getD j []).getD 4 default).str == ⟨#[]⟩) && !((((b.getD j []).getD 0 default).int == 0) && ((((b.getD j []).getD 1 default).int == 0) && ((((b.getD j []).getD 2 default).int == 0) && (((b.getD j []).getD 3 default).int == 0))))) = true := hb
      rw [hb, if_pos rfl] at hT
      simp only [rt15_4, VT.ok, Nd.holds, X.ds, X.d, Op1.ev, Op2.ev, List.getD_cons_zero, List.getD_cons_succ, D.int_i, D.bool_b, D.lst_l, D.str_s, ite_b, ite_and, Int.toNat_natCast, if_true, implies_true, true_and, c0, c1, c2, c4, c5, hb']
      exact hn _ (by rw [hT]; rfl)
  · have hj' : N.length = j := by omega
    subst hj'
    have c0 : decide ((N.length : Int) < (N.length : Int)) = false := decide_eq_false (by omega)
    simp only [rt15_4, VT.ok, Nd.holds, X.ds, X.d, Op1.ev, Op2.ev, List.getD_cons_zero, List.getD_cons_succ, D.int_i, D.bool_b, D.lst_l, D.str_s, ite_b, ite_and, Int.toNat_natCast, Bool.false_eq_true, if_false, c0]
    refine round_exit (by omega) ?_
    show lpG (mItem N b) N.length N.length acc = _
    unfold lpG
    rw [coll_end]
    try rfl
end Go.Proofs.Ythpppbfiiphgoaa.rv
namespace Go.RV
open Go.Proofs.Ythpppbfiiphgoaa.rv
theorem ord_len {g : Gd} (hv : validE g = 0) : (ordD g).length = g.C.length := by
  rw [ord_byKey, byKey_all _ _ rfl (dep_ok hv), idI_len]
theorem ord_mem {g : Gd} {x : Int} (h : x ∈ ordD g) : ∃ i : Nat, i < g.C.length ∧ x = (i : Int) := by
  unfold ordD collN at h
  simp only [List.mem_flatMap, List.drop_zero, List.mem_range] at h
  obtain ⟨d, _, i, hi, hx⟩ := h
  split at hx
  · simp only [List.mem_singleton] at hx
    exact ⟨i, hi, hx⟩
  · cases hx
theorem ord_ok {g : Gd} {c : List (List D)} (hc : c.length = g.C.length) : ∀ i, i < ((ordD g).map encI).length → (el ((ordD g).map encI) i).getD 0 default = .i (cI (el ((ordD g).map encI) i) 0) ∧ 0 ≤ cI (el ((ordD g).map encI) i) 0 ∧ cI (el ((ordD g).map encI) i) 0 < c.length := fun i hi => by
  rw [List.length_map] at hi
  have e : el ((ordD g).map encI) i = [.i ((ordD g).getD i 0)] := rowI hi
  obtain ⟨k, hk, hx⟩ := ord_mem (getD_mem (0 : Int) hi)
  rw [e]
  refine ⟨rfl, ?_, ?_⟩
  · show 0 ≤ (ordD g).getD i 0
    omega
  · show (ordD g).getD i 0 < c.length
    omega
theorem grp_coll (c : List (List D)) (o : List Int) : collN (fun i => [gItem c (cI (el (o.map encI) i) 0)]) (o.map encI).length 0 = o.map (gItem c) := by
  rw [coll_map (fun x => gItem c (cI x 0)), List.map_map]
  rfl
theorem fitB_f {g : Gd} {n c r l : List (List D)} (h : fitB g n c r l = false) : validE g = 0 ∧ n.length = g.N.length ∧ c.length = g.C.length ∧ r.length = g.E.length ∧ l.length = g.E.length := by
  simp only [fitB, Bool.or_eq_false_iff, Bool.not_eq_false', beq_iff_eq] at h
  omega
theorem ptsR_of {e : TypeId} {r : List (List D)} (h : ∀ x ∈ r, FitsF [.sl e [.int .i64, .int .i64]] x) (hq : ∀ x ∈ r, (cL x 0).length ≤ 8796093022208) : ptsR r := fun i hi => by
  have hm := getD_mem [] hi
  refine ⟨?_, hq _ hm⟩
  obtain ⟨x, e, hx⟩ := fits1 (h _ hm)
  obtain ⟨ps, rfl, _⟩ := wf_sl hx
  rw [show el r i = [.l ps] from e]
  rfl
theorem fitsDr {e1 e2 e3 e4 e5 e6 : TypeId} {c1 c2 c5 c6 : List CT} {a9 a10 a11 a12 a13 a14 : CT} {ds : List D} (h : FitsF (.sl e1 c1 :: .sl e2 c2 :: .sl e3 [.sl e4 [.int .i64, .int .i64]] :: .sl e5 c5 :: a9 :: a10 :: a11 :: a12 :: a13 :: a14 :: .sl e6 c6 :: []) ds) :
    ∃ (n c r l : List (List D)) (x9 x10 x11 x12 x13 x14 x15 : D), ds = [.l n, .l c, .l r, .l l, x9, x10, x11, x12, x13, x14, x15] ∧ (∀ x ∈ r, FitsF [.sl e4 [.int .i64, .int .i64]] x) ∧ (∀ x ∈ n, FitsF c1 x) ∧ (∀ x ∈ c, FitsF c2 x) ∧ ∀ x ∈ l, FitsF c5 x := by
  match ds, h with
  | [d0, d1, d2, d3, d4, d5, d6, d7, d8, d9, d10], ⟨h0, h1, h2, h3, _⟩ =>
    obtain ⟨n, rfl, _, hn⟩ := wf_sl h0
    obtain ⟨c, rfl, _, hc⟩ := wf_sl h1
    obtain ⟨r, rfl, _, hr⟩ := wf_sl h2
    obtain ⟨l, rfl, _, hl⟩ := wf_sl h3
    exact ⟨n, c, r, l, d4, d5, d6, d7, d8, d9, d10, rfl, hr, hn, hc, hl⟩
end Go.RV
namespace Go.Proofs.Ythpppbfiiphgoaa.rv
set_option maxRecDepth 10000
open Go.RV
theorem m15 : Meets Try.prog 15 S15 (R 15) (F 15) := by
  refine meets_of_vt (pre := R) (Φ := F) mixed (sgAt_all (P := Try.prog) (pre := R) (Φ := F) (l := sg15) (List.forall_mem_cons.2 ⟨Meets.at (pre := R) (Φ := F) m30, List.forall_mem_cons.2 ⟨Meets.at (pre := R) (Φ := F) m31, List.forall_mem_cons.2 ⟨Meets.at (pre := R) (Φ := F) m32, List.forall_mem_cons.2 ⟨Meets.at (pre := R) (Φ := F) m13, List.forall_mem_cons.2 ⟨Meets.at (pre := R) (Φ := F) m11, (fun _ h => nomatch h)⟩⟩⟩⟩⟩)) Try.func15 b15 n15 (loops_n 5 k15 fun k hk => match k, hk with | 0, _ => loop_this lf15_0 loopM15_0 | 1, _ => loop_this lf15_1 loopM15_1 | 2, _ => loop_this lf15_2 loopM15_2 | 3, _ => loop_this lf15_3 loopM15_3 | 4, _ => loop_this lf15_4 loopM15_4) e15 fun ds hf hq => ?_
  obtain ⟨g, ds', rfl, h5, _⟩ := fitsG hf.flat
  obtain ⟨n, c, r, l, x9, x10, x11, x12, x13, x14, x15, rfl, hr, _⟩ := fitsDr h5
  have hq : ∀ x ∈ r, (cL x 0).length ≤ 8796093022208 := hq
  have hval : buildD [.s g.nm, .b g.dr, .l g.N, .l g.E, .l g.C, .l n, .l c, .l r, .l l, x9, x10, x11, x12, x13, x14, x15] = outS (buildS g n c r l) := rfl
  have hv0 : validD [.s g.nm, .b g.dr, .l g.N, .l g.E, .l g.C] = [.i (validE g)] := rfl
  have hfit : ((((!(validE g == 0) || !((n.length : Int) == (g.N.length : Int))) || !((c.length : Int) == (g.C.length : Int))) || !((r.length : Int) == (g.E.length : Int))) || !((l.length : Int) == (g.E.length : Int))) = fitB g n c r l := rfl
  rw [show F 15 = buildD from rfl]
  show VT.ok F [.s g.nm, .b g.dr, .l g.N, .l g.E, .l g.C, .l n, .l c, .l r, .l l, x9, x10, x11, x12, x13, x14, x15] R (fun out => out = buildD [.s g.nm, .b g.dr, .l g.N, .l g.E, .l g.C, .l n, .l c, .l r, .l l, x9, x10, x11, x12, x13, x14, x15]) vt15
  rw [hval]
  cases h1 : fitB g n c r l
  · obtain ⟨k0, k1, k2, k3, k4⟩ := fitB_f h1
    obtain ⟨⟨m1, m2, m3⟩, _⟩ := valid_parts k0
    have hord := ord_len k0
    have hps := ptsR_of hr hq
    have hbd : ∀ I : List (List D), bdsD [.l I] = [.i (bndS I).1, .i (bndS I).2.1, .i (bndS I).2.2.1, .i (bndS I).2.2.2] := fun _ => rfl
    have hva : ∀ I : List (List D), valD [.i (bndS I).1, .i (bndS I).2.1, .i (bndS I).2.2.1, .i (bndS I).2.2.2, .l I] = [.i (validS I (bndS I))] := fun _ => rfl
    have s1 : ((ordD g).map (gItem c)).length ≤ 16 := by rw [List.length_map, hord]; exact m3
    have s2 := coll_len (f := fun i => [rItem r i]) (n := g.E.length) (i := 0) (m := 1) (fun _ => Nat.le_refl _)
    have s3 := coll_len (f := fun i => [nItem n i]) (n := g.N.length) (i := 0) (m := 1) (fun _ => Nat.le_refl _)
    have s4 := coll_len (f := lItem g.N 1 n) (n := g.N.length) (i := 0) (m := 1) (lItem_len g.N 1 n)
    have s5 := coll_len (f := mItem g.E l) (n := g.E.length) (i := 0) (m := 1) (mItem_len g.E l)
    have hI : ((((((ordD g).map (gItem c)) ++ collN (fun i => [rItem r i]) g.E.length 0) ++ collN (fun i => [nItem n i]) g.N.length 0) ++ collN (lItem g.N 1 n) g.N.length 0) ++ collN (mItem g.E l) g.E.length 0) = itemsD g n c r l := rfl
    have t2 : (((ordD g).map (gItem c)) ++ collN (fun i => [rItem r i]) g.E.length 0).length ≤ 1000 := by simp only [List.length_append]; omega
    have t3 : ((((ordD g).map (gItem c)) ++ collN (fun i => [rItem r i]) g.E.length 0) ++ collN (fun i => [nItem n i]) g.N.length 0).length ≤ 1000 := by simp only [List.length_append]; omega
    have t4 : (((((ordD g).map (gItem c)) ++ collN (fun i => [rItem r i]) g.E.length 0) ++ collN (fun i => [nItem n i]) g.N.length 0) ++ collN (lItem g.N 1 n) g.N.length 0).length ≤ 1000 := by simp only [List.length_append]; omega
    have t5 : ((((((ordD g).map (gItem c)) ++ collN (fun i => [rItem r i]) g.E.length 0) ++ collN (fun i => [nItem n i]) g.N.length 0) ++ collN (lItem g.N 1 n) g.N.length 0) ++ collN (mItem g.E l) g.E.length 0).length ≤ 1000 := by simp only [List.length_append]; omega
    have hgr : grpsD [.s g.nm, .b g.dr, .l g.N, .l g.E, .l g.C] = [.l ((ordD g).map encI)] := rfl
    have l0 : lpB0 [.l ((ordD g).map encI), .i (((ordD g).map encI).length : Int), .i 0, .l n, .l c, .l r, .l l, x9, x10, x11, x12, x13, x14, x15, .i 0, .i 0, .i 0, .i 0, .l []] = [.i 0, .i (((ordD g).map encI).length : Int), .l ((ordD g).map (gItem c))] := by
      rw [← grp_coll c (ordD g)]; rfl
    have p0 : prB0 [.l ((ordD g).map encI), .i (((ordD g).map encI).length : Int), .i 0, .l n, .l c, .l r, .l l, x9, x10, x11, x12, x13, x14, x15, .i 0, .i 0, .i 0, .i 0, .l []] := ⟨_, _, _, _, _, _, _, _, _, _, _, _, _, _, (ordD g).map encI, c, [], 0, rfl, Nat.zero_le _, by rw [List.length_map, hord]; omega, by show (0 : Nat) ≤ _; omega, ord_ok (by omega)⟩
    rw [List.length_map] at l0 p0
    have l1 : lpB1 [.i (g.E.length : Int), .i 0, .l n, .l c, .l r, .l l, x9, x10, x11, x12, x13, x14, x15, .i 0, .i 0, .i 0, .i 0, .l ((ordD g).map (gItem c))] = [.i 0, .i (g.E.length : Int), .l (((ordD g).map (gItem c)) ++ collN (fun i => [rItem r i]) g.E.length 0)] := rfl
    have p1 : prB1 [.i (g.E.length : Int), .i 0, .l n, .l c, .l r, .l l, x9, x10, x11, x12, x13, x14, x15, .i 0, .i 0, .i 0, .i 0, .l ((ordD g).map (gItem c))] := ⟨_, _, _, _, _, _, _, _, _, _, _, _, _, _, g.E.length, r, _, 0, rfl, Nat.zero_le _, m2, by omega, by omega, hps⟩
    have l2 : lpB2 [.i (g.N.length : Int), .i 0, .l n, .l c, .l r, .l l, x9, x10, x11, x12, x13, x14, x15, .i 0, .i 0, .i 0, .i 0, .l (((ordD g).map (gItem c)) ++ collN (fun i => [rItem r i]) g.E.length 0)] = [.i 0, .i (g.N.length : Int), .l ((((ordD g).map (gItem c)) ++ collN (fun i => [rItem r i]) g.E.length 0) ++ collN (fun i => [nItem n i]) g.N.length 0)] := rfl
    have p2 : prB2 [.i (g.N.length : Int), .i 0, .l n, .l c, .l r, .l l, x9, x10, x11, x12, x13, x14, x15, .i 0, .i 0, .i 0, .i 0, .l (((ordD g).map (gItem c)) ++ collN (fun i => [rItem r i]) g.E.length 0)] := ⟨_, _, _, _, _, _, _, _, _, _, _, _, _, _, g.N.length, n, _, 0, rfl, Nat.zero_le _, by omega, by omega, by omega⟩
    have l3 : lpB3 [.l g.N, .i (g.N.length : Int), .i 0, .l n, .l c, .l r, .l l, x9, x10, x11, x12, x13, x14, x15, .i 0, .i 0, .i 0, .i 0, .l ((((ordD g).map (gItem c)) ++ collN (fun i => [rItem r i]) g.E.length 0) ++ collN (fun i => [nItem n i]) g.N.length 0)] = [.i 0, .i (g.N.length : Int), .l (((((ordD g).map (gItem c)) ++ collN (fun i => [rItem r i]) g.E.length 0) ++ collN (fun i => [nItem n i]) g.N.length 0) ++ collN (lItem g.N 1 n) g.N.length 0)] := rfl
    have p3 : prB3 [.l g.N, .i (g.N.length : Int), .i 0, .l n, .l c, .l r, .l l, x9, x10, x11, x12, x13, x14, x15, .i 0, .i 0, .i 0, .i 0, .l ((((ordD g).map (gItem c)) ++ collN (fun i => [rItem r i]) g.E.length 0) ++ collN (fun i => [nItem n i]) g.N.length 0)] := ⟨_, _, _, _, _, _, _, _, _, _, _, _, _, _, g.N, n, _, 0, rfl, Nat.zero_le _, by omega, by omega, by omega⟩
    have l4 : lpB4 [.l g.E, .i (g.E.length : Int), .i 0, .l n, .l c, .l r, .l l, x9, x10, x11, x12, x13, x14, x15, .i 0, .i 0, .i 0, .i 0, .l (((((ordD g).map (gItem c)) ++ collN (fun i => [rItem r i]) g.E.length 0) ++ collN (fun i => [nItem n i]) g.N.length 0) ++ collN (lItem g.N 1 n) g.N.length 0)] = [.i 0, .i (g.E.length : Int), .l ((((((ordD g).map (gItem c)) ++ collN (fun i => [rItem r i]) g.E.length 0) ++ collN (fun i => [nItem n i]) g.N.length 0) ++ collN (lItem g.N 1 n) g.N.length 0) ++ collN (mItem g.E l) g.E.length 0)] := rfl
    have p4 : prB4 [.l g.E, .i (g.E.length : Int), .i 0, .l n, .l c, .l r, .l l, x9, x10, x11, x12, x13, x14, x15, .i 0, .i 0, .i 0, .i 0, .l (((((ordD g).map (gItem c)) ++ collN (fun i => [rItem r i]) g.E.length 0) ++ collN (fun i => [nItem n i]) g.N.length 0) ++ collN (lItem g.N 1 n) g.N.length 0)] := ⟨_, _, _, _, _, _, _, _, _, _, _, _, _, _, g.E, l, _, 0, rfl, Nat.zero_le _, m2, by omega, by omega⟩
    have hbp : bdPre [.l ((((((ordD g).map (gItem c)) ++ collN (fun i => [rItem r i]) g.E.length 0) ++ collN (fun i => [nItem n i]) g.N.length 0) ++ collN (lItem g.N 1 n) g.N.length 0) ++ collN (mItem g.E l) g.E.length 0)] := by show ((((((ordD g).map (gItem c)) ++ collN (fun i => [rItem r i]) g.E.length 0) ++ collN (fun i => [nItem n i]) g.N.length 0) ++ collN (lItem g.N 1 n) g.N.length 0) ++ collN (mItem g.E l) g.E.length 0).length ≤ 1000000; omega
    have hB : buildS g n c r l = if validS ((((((ordD g).map (gItem c)) ++ collN (fun i => [rItem r i]) g.E.length 0) ++ collN (fun i => [nItem n i]) g.N.length 0) ++ collN (lItem g.N 1 n) g.N.length 0) ++ collN (mItem g.E l) g.E.length 0) (bndS ((((((ordD g).map (gItem c)) ++ collN (fun i => [rItem r i]) g.E.length 0) ++ collN (fun i => [nItem n i]) g.N.length 0) ++ collN (lItem g.N 1 n) g.N.length 0) ++ collN (mItem g.E l) g.E.length 0)) = 0 then (bndS ((((((ordD g).map (gItem c)) ++ collN (fun i => [rItem r i]) g.E.length 0) ++ collN (fun i => [nItem n i]) g.N.length 0) ++ collN (lItem g.N 1 n) g.N.length 0) ++ collN (mItem g.E l) g.E.length 0), ((((((ordD g).map (gItem c)) ++ collN (fun i => [rItem r i]) g.E.length 0) ++ collN (fun i => [nItem n i]) g.N.length 0) ++ collN (lItem g.N 1 n) g.N.length 0) ++ collN (mItem g.E l) g.E.length 0), 0) else (z4, [], validS ((((((ordD g).map (gItem c)) ++ collN (fun i => [rItem r i]) g.E.length 0) ++ collN (fun i => [nItem n i]) g.N.length 0) ++ collN (lItem g.N 1 n) g.N.length 0) ++ collN (mItem g.E l) g.E.length 0) (bndS ((((((ordD g).map (gItem c)) ++ collN (fun i => [rItem r i]) g.E.length 0) ++ collN (fun i => [nItem n i]) g.N.length 0) ++ collN (lItem g.N 1 n) g.N.length 0) ++ collN (mItem g.E l) g.E.length 0))) := by
      rw [hI]; unfold buildS; rw [h1, if_neg (by decide)]
    simp only [vt15, VT.ok, Nd.holds, X.outs, X.ds, X.d, Op1.ev, Op2.ev, takeD_zero, takeD_cons, List.cons_append, List.nil_append, List.getD_cons_zero, List.getD_cons_succ, D.int_i, D.bool_b, D.lst_l, ite_b, ite_or, List.length_map, Bool.false_eq_true, if_false, implies_true, true_and, F30, R30, F13, R13, F11, R11, F31, R31, F11500, R11500, F11501, R11501, F11502, R11502, F11503, R11503, F11504, R11504, hv0, hfit, h1, hgr, l0, l1, l2, l3, l4, hbd, hva]
    refine ⟨fun _ => k0, fun _ => p0, fun _ => p1, fun _ => p2, fun _ => p3, fun _ => p4, fun _ => hbp, ?_⟩
    rw [hB]
    by_cases hz : validS ((((((ordD g).map (gItem c)) ++ collN (fun i => [rItem r i]) g.E.length 0) ++ collN (fun i => [nItem n i]) g.N.length 0) ++ collN (lItem g.N 1 n) g.N.length 0) ++ collN (mItem g.E l) g.E.length 0) (bndS ((((((ordD g).map (gItem c)) ++ collN (fun i => [rItem r i]) g.E.length 0) ++ collN (fun i => [nItem n i]) g.N.length 0) ++ collN (lItem g.N 1 n) g.N.length 0) ++ collN (mItem g.E l) g.E.length 0)) = 0
    · rw [beq_t hz, if_pos hz]; rfl
    · rw [beq_f hz, if_neg hz]; rfl
  · have hB : buildS g n c r l = (z4, [], 1) := by unfold buildS; rw [h1, if_pos rfl]
    simp only [vt15, VT.ok, Nd.holds, X.outs, X.ds, X.d, Op1.ev, Op2.ev, takeD_zero, takeD_cons, List.cons_append, List.nil_append, List.getD_cons_zero, List.getD_cons_succ, D.int_i, D.bool_b, D.lst_l, ite_b, ite_or, if_true, implies_true, true_and, takeD1_0, F30, R30, F13, R13, F11, R11, F31, R31, F11500, R11500, F11501, R11501, F11502, R11502, F11503, R11503, F11504, R11504, hv0, hfit, h1, hB]
    rfl
def awI : List (List D) := [[.i 2, .i 0, .i 0, .i 0, .i 20, .i 10, .l [], .s ⟨#[]⟩], [.i 4, .i 0, .i 0, .i 0, .i 20, .i 10, .l [], .s ⟨#[97]⟩]]
theorem aw1 : buildD [.s ⟨#[103]⟩, .b false, .l [[.s ⟨#[97]⟩, .s ⟨#[97]⟩, .i 20, .i 10, .i (-1), .l []]], .l [], .l [], .l [[.i 0, .i 0, .i 20, .i 10]], .l [], .l [], .l [], .i 0, .i 0, .i 0, .i 0, .i 0, .i 0, .l []] = [.i 0, .i 0, .i 20, .i 10, .l awI, .i 0] := by kernel_rfl
theorem aw2 : buildD [.s ⟨#[103]⟩, .b false, .l [[.s ⟨#[97]⟩, .s ⟨#[97]⟩, .i 20, .i 10, .i (-1), .l []]], .l [], .l [], .l [], .l [], .l [], .l [], .i 0, .i 0, .i 0, .i 0, .i 0, .i 0, .l []] = [.i 0, .i 0, .i 0, .i 0, .l [], .i 1] := by kernel_rfl
theorem aw3 : moveD [.i 0, .i 0, .i 20, .i 10, .l awI, .i 268435456, .i 0] = [.i 0, .i 0, .i 0, .i 0, .l [], .i 3] := by kernel_rfl
theorem aw4 : moveD [.i 0, .i 0, .i 20, .i 10, .l awI, .i 1, .i 2] = [.i 1, .i 2, .i 21, .i 12, .l (awI.map (mvI 1 2)), .i 0] := by kernel_rfl
theorem aw5 : valD [.i 5, .i 5, .i 5, .i 5, .l [[.i 3, .i 0, .i 0, .i 0, .i 0, .i 0, .l [[.i 5, .i 5]], .s ⟨#[]⟩]]] = [.i 0] := by kernel_rfl
theorem aw6 : valD [.i 0, .i 0, .i 5, .i 5, .l [[.i 3, .i 0, .i 0, .i 0, .i 0, .i 0, .l [[.i 5, .i 5]], .s ⟨#[]⟩]]] = [.i 13] := by kernel_rfl
theorem m10 : Meets Try.prog 10 S10 (R 10) (F 10) := by
  refine meets_of_vt (pre := R) (Φ := F) mixed (sgAt_all (P := Try.prog) (pre := R) (Φ := F) (l := sg10) (List.forall_mem_cons.2 ⟨Meets.at (pre := R) (Φ := F) m15, List.forall_mem_cons.2 ⟨Meets.at (pre := R) (Φ := F) m18, List.forall_mem_cons.2 ⟨Meets.at (pre := R) (Φ := F) m11, (fun _ h => nomatch h)⟩⟩⟩)) Try.func10 b10 n10 (loops_n 0 k10 fun k hk => by omega) e10 fun ds hf hq => ?_
  have e0 := fits0 hf.flat
  subst e0
  have hp : ∀ a b c d e f g h x9 x10 x11 x12 x13 x14 x15 : D, prBuild [a, b, c, d, e, f, g, .l [], h, x9, x10, x11, x12, x13, x14, x15] := fun _ _ _ _ _ _ _ _ _ _ _ _ _ _ _ x hx => by cases hx
  have el : ((awI.length : Nat) : Int) = 2 := rfl
  have e1 : awI.getD (1 : Int).toNat [] = [.i 4, .i 0, .i 0, .i 0, .i 20, .i 10, .l [], .s ⟨#[97]⟩] := rfl
  simp only [vt10, VT.ok, Nd.holds, X.outs, X.ds, X.d, Op1.ev, Op2.ev, takeD_zero, takeD_cons, List.cons_append, List.nil_append, List.getD_cons_zero, List.getD_cons_succ, D.int_i, D.bool_b, D.lst_l, ite_b, ite_and, implies_true, true_and, F11, R11, F18, R18, F15, R15, F10, aw1, aw2, aw3, aw4, aw5, aw6, el, e1]
  refine ⟨fun _ => hp _ _ _ _ _ _ _ _ _ _ _ _ _ _ _, fun _ => hp _ _ _ _ _ _ _ _ _ _ _ _ _ _ _, ?_⟩
  trivial
end Go.Proofs.Ythpppbfiiphgoaa.rv
namespace Go.Proofs.Ythpppbfiiphgoaa.rv
set_option maxRecDepth 10000
open Go.RV
theorem nth4 (a b c d : Int) {j : Nat} (h : j < 4) : (([.i a, .i b, .i c, .i d] : List D).getD j default).int = nthI [a, b, c, d] j := by
  match j, h with
  | 0, _ => rfl
  | 1, _ => rfl
  | 2, _ => rfl
  | 3, _ => rfl
theorem loopM8_0 : LoopMeets Try.prog F (R L8_0.key) L8_0 lb8_0 := by
  refine loop_meets (pre := R) mixed (sgAt_all (P := Try.prog) (pre := R) (Φ := F) (l := sg8) (List.forall_mem_cons.2 ⟨Meets.at (pre := R) (Φ := F) m9, List.forall_mem_cons.2 ⟨Meets.at (pre := R) (Φ := F) m10, List.forall_mem_cons.2 ⟨Meets.at (pre := R) (Φ := F) m13, List.forall_mem_cons.2 ⟨Meets.at (pre := R) (Φ := F) m18, List.forall_mem_cons.2 ⟨Meets.at (pre := R) (Φ := F) m21, List.forall_mem_cons.2 ⟨Meets.at (pre := R) (Φ := F) m11, (fun _ h => nomatch h)⟩⟩⟩⟩⟩⟩)) (loops_n 0 lk8_0 fun k hk => by omega) L8_0 (fun ρ => (4 - (ρ.getD 1 default).int).toNat) le8_0 fun ρ _ hq => ?_
  obtain ⟨v, a, b, c, d, j, rfl, hj⟩ : prBk0 ρ := hq
  by_cases hlt : j < 4
  · have c0 : decide ((j : Int) < 4) = true := decide_eq_true (by omega)
    have c1 : decide ((0 : Int) ≤ (j : Int)) = true := decide_eq_true (by omega)
    have c2 : IntKind.i64.wrap ((j : Int) + 1) = ((j + 1 : Nat) : Int) := nat_wrap (by omega)
    have ho : one [] = [.b true] := rfl
    simp only [rt8_0, VT.ok, Nd.holds, X.outs, X.ds, X.d, Op2.ev, takeD_zero, takeD_cons, List.cons_append, List.nil_append, List.getD_cons_zero, List.getD_cons_succ, D.int_i, D.bool_b, ite_b, ite_or, Int.toNat_natCast, if_true, implies_true, true_and, F10, R10, c0, c1, c2, ho, nth4 a b c d hlt]
    show if farN [a, b, c, d] j = true then _ else _
    cases hb : farN [a, b, c, d] j
    · rw [if_neg (by decide)]
      refine round_next ⟨⟨v, a, b, c, d, j + 1, rfl, by omega⟩, ?_, ?_⟩
      · show (4 - ((j + 1 : Nat) : Int)).toNat < (4 - (j : Int)).toNat
        omega
      · show scanN (farN [a, b, c, d]) _ _ (4 - (j + 1)) (j + 1) = scanN (farN [a, b, c, d]) _ _ (4 - j) j
        exact scan_next hlt hb
    · rw [if_pos rfl]
      refine round_exit (by omega) ?_
      show scanN (farN [a, b, c, d]) _ _ (4 - j) j = _
      exact scan_hit hlt hb
  · have hj' : j = 4 := by omega
    subst hj'
    have c0 : decide (((4 : Nat) : Int) < 4) = false := rfl
    simp only [rt8_0, VT.ok, Nd.holds, X.outs, X.ds, X.d, Op2.ev, List.cons_append, List.nil_append, List.getD_cons_zero, List.getD_cons_succ, D.int_i, D.bool_b, ite_b, ite_or, Int.toNat_natCast, Bool.false_eq_true, if_false, takeD1_0, c0]
    refine round_exit (by omega) ?_
    show lpBk0 [v, .i ((4 : Nat) : Int), .i a, .i b, .i c, .i d] = _
    rfl
theorem loopM8_1 : LoopMeets Try.prog F (R L8_1.key) L8_1 lb8_1 := by
  refine loop_meets (pre := R) mixed (sgAt_all (P := Try.prog) (pre := R) (Φ := F) (l := sg8) (List.forall_mem_cons.2 ⟨Meets.at (pre := R) (Φ := F) m9, List.forall_mem_cons.2 ⟨Meets.at (pre := R) (Φ := F) m10, List.forall_mem_cons.2 ⟨Meets.at (pre := R) (Φ := F) m13, List.forall_mem_cons.2 ⟨Meets.at (pre := R) (Φ := F) m18, List.forall_mem_cons.2 ⟨Meets.at (pre := R) (Φ := F) m21, List.forall_mem_cons.2 ⟨Meets.at (pre := R) (Φ := F) m11, (fun _ h => nomatch h)⟩⟩⟩⟩⟩⟩)) (loops_n 0 lk8_1 fun k hk => by omega) L8_1 (fun ρ => ((ρ.getD 0 default).int + 1).toNat) le8_1 fun ρ _ hq => ?_
  obtain ⟨a, b, c, d, I, acc, k, rfl, hk, hI, ha⟩ : prBk1 ρ := hq
  cases k with
  | zero =>
    have c0 : decide ((0 : Int) ≤ ((0 : Nat) : Int) - 1) = false := rfl
    simp only [rt8_1, VT.ok, Nd.holds, X.ds, X.d, Op1.ev, Op2.ev, List.getD_cons_zero, List.getD_cons_succ, D.int_i, D.bool_b, D.lst_l, Bool.false_eq_true, if_false, c0]
    refine round_exit (by omega) ?_
    show ([.i 0, .i (-1), .l (acc ++ downN (fun j => [cellsN 8 (el I j)]) 0)] : List D) = _
    rw [down_zero]
    rfl
  | succ m =>
    have e : ((m + 1 : Nat) : Int) - 1 = (m : Int) := by omega
    rw [e]
    have c0 : decide ((0 : Int) ≤ (m : Int)) = true := decide_eq_true (by omega)
    have c1 : decide ((m : Int) < (I.length : Int)) = true := decide_eq_true (by omega)
    have c2 : IntKind.i64.wrap ((m : Int) - 1) = (m : Int) - 1 := w64 (by omega)
    have c4 : ∀ z : List D, decide ((((acc ++ [z]).length : Nat) : Int) ≤ 1599289640401) = true := fun z => decide_eq_true (by rw [List.length_append, List.length_cons, List.length_nil]; omega)
    simp only [rt8_1, VT.ok, Nd.holds, X.ds, X.d, Op1.ev, Op2.ev, List.getD_cons_zero, List.getD_cons_succ, D.int_i, D.bool_b, D.lst_l, Int.toNat_natCast, if_true, implies_true, true_and, c0, c1, c2, c4]
    refine round_next ⟨⟨a, b, c, d, I, acc ++ [cellsN 8 (el I m)], m, rfl, by omega, hI, by rw [List.length_append, List.length_cons, List.length_nil]; omega⟩, ?_, ?_⟩
    · show ((m : Int) - 1 + 1).toNat < ((m : Int) + 1).toNat
      omega
    · have k1 : ((m : Int) - 1 + 1).toNat = m := by omega
      have k2 : ((m : Int) + 1).toNat = m + 1 := by omega
      show ([.i 0, .i (-1), .l ((acc ++ [cellsN 8 (el I m)]) ++ downN (fun j => [cellsN 8 (el I j)]) ((m : Int) - 1 + 1).toNat)] : List D) = [.i 0, .i (-1), .l (acc ++ downN (fun j => [cellsN 8 (el I j)]) ((m : Int) + 1).toNat)]
      rw [k1, k2, down_next (f := fun j => [cellsN 8 (el I j)]) (k := m) acc]
theorem fits4i {ds : List D} (h : FitsF [.int .i64, .int .i64, .int .i64, .int .i64] ds) : ∃ a b c d : Int, ds = [.i a, .i b, .i c, .i d] := by
  obtain ⟨x, y, z, w, rfl, hx, hy, hz, hw⟩ := fits4 h
  obtain ⟨a, rfl, _⟩ := wf_i64 hx
  obtain ⟨b, rfl, _⟩ := wf_i64 hy
  obtain ⟨c, rfl, _⟩ := wf_i64 hz
  obtain ⟨d, rfl, _⟩ := wf_i64 hw
  exact ⟨a, b, c, d, rfl⟩
theorem near4 {a b c d : Int} (h : ∀ j, j < 4 → farN [a, b, c, d] j = false) : sm a ∧ sm b ∧ sm c ∧ sm d := by
  have h0 := h 0 (by omega)
  have h1 := h 1 (by omega)
  have h2 := h 2 (by omega)
  have h3 := h 3 (by omega)
  simp only [farN, nthI, List.getD_cons_zero, List.getD_cons_succ, Bool.or_eq_false_iff, decide_eq_false_iff_not] at h0 h1 h2 h3
  unfold sm
  omega
theorem law8 : Meets Try.prog 8 S8 (fun _ => True) (fun _ => [.b true]) := by
  refine meets_of_vt (pre := R) (Φ := F) mixed (sgAt_all (P := Try.prog) (pre := R) (Φ := F) (l := sg8) (List.forall_mem_cons.2 ⟨Meets.at (pre := R) (Φ := F) m9, List.forall_mem_cons.2 ⟨Meets.at (pre := R) (Φ := F) m10, List.forall_mem_cons.2 ⟨Meets.at (pre := R) (Φ := F) m13, List.forall_mem_cons.2 ⟨Meets.at (pre := R) (Φ := F) m18, List.forall_mem_cons.2 ⟨Meets.at (pre := R) (Φ := F) m21, List.forall_mem_cons.2 ⟨Meets.at (pre := R) (Φ := F) m11, (fun _ h => nomatch h)⟩⟩⟩⟩⟩⟩)) Try.func8 b8 n8 (loops_n 2 k8 fun k hk => match k, hk with | 0, _ => loop_this lf8_0 loopM8_0 | 1, _ => loop_this lf8_1 loopM8_1) e8 fun ds hf _ => ?_
  obtain ⟨a, b, c, d, I, ds', rfl, h5, hm, hfx⟩ := fitsS hf.flat
  obtain ⟨x, y, z, w, rfl⟩ := fits4i h5
  have hfw : fewD [.i a, .i b, .i c, .i d, .l I] = [.b (fewB I)] := rfl
  have ho : one [] = [.b true] := rfl
  cases hb : fewB I
  · simp only [vt8, VT.ok, Nd.holds, X.outs, X.ds, X.d, Op1.ev, Op2.ev, takeD_zero, takeD_cons, List.cons_append, List.nil_append, List.getD_cons_zero, List.getD_cons_succ, D.int_i, D.bool_b, D.lst_l, ite_b, ite_and, if_true, implies_true, true_and, and_true, F13, R13, F11, R11, F9, R9, F21, R21, F18, R18, F10, R10, F10800, R10800, F10801, R10801, hfw, hb, ho, Bool.not_false]
  · have hlen := (fewB_len hb).1
    have hp0 : prBk0 [.b false, .i 0, .i x, .i y, .i z, .i w] := ⟨_, x, y, z, w, 0, rfl, by omega⟩
    have hl0 : lpBk0 [.b false, .i 0, .i x, .i y, .i z, .i w] = scanN (farN [x, y, z, w]) (fun j => [.i 0, .b true, .i (j : Int)]) (fun j => [.i 1, .b false, .i (j : Int)]) 4 0 := rfl
    rcases scan_two (p := farN [x, y, z, w]) 4 with ⟨_, j, _, _, _, h⟩ | ⟨hn, h⟩
    · simp only [vt8, VT.ok, Nd.holds, X.outs, X.ds, X.d, Op1.ev, Op2.ev, takeD_zero, takeD_cons, List.cons_append, List.nil_append, List.getD_cons_zero, List.getD_cons_succ, D.int_i, D.bool_b, D.lst_l, ite_b, ite_and, if_true, Bool.false_eq_true, if_false, implies_true, true_and, and_true, F13, R13, F11, R11, F9, R9, F21, R21, F18, R18, F10, R10, F10800, R10800, F10801, R10801, hfw, hb, ho, Bool.not_true, hl0, h, beq_self_eq_true]
      exact fun _ => hp0
    · obtain ⟨n1, n2, n3, n4⟩ := near4 (anyN_false.1 hn)
      have w1 : IntKind.i64.wrap ((I.length : Int) - 1) = (I.length : Int) - 1 := w64 (by omega)
      have w2 : IntKind.i64.wrap (0 - x) = -x := by unfold sm at n1; rw [w64 (by omega)]; omega
      have w3 : IntKind.i64.wrap (0 - y) = -y := by unfold sm at n2; rw [w64 (by omega)]; omega
      have w4 : IntKind.i64.wrap (x + z) = x + z := w64 (by unfold sm at *; omega)
      have w5 : IntKind.i64.wrap (y + w) = y + w := w64 (by unfold sm at *; omega)
      have hp1 : prBk1 [.i ((I.length : Int) - 1), .i a, .i b, .i c, .i d, .l I, .l []] := ⟨_, _, _, _, I, [], I.length, rfl, Nat.le_refl _, by omega, by show 0 + _ ≤ _; omega⟩
      have hl1 : lpBk1 [.i ((I.length : Int) - 1), .i a, .i b, .i c, .i d, .l I, .l []] = [.i 0, .i (-1), .l (downN (fun j => [cellsN 8 (el I j)]) I.length)] := by
        have e : ((I.length : Int) - 1 + 1).toNat = I.length := by omega
        show ([.i 0, .i (-1), .l ([] ++ downN (fun j => [cellsN 8 (el I j)]) ((I.length : Int) - 1 + 1).toNat)] : List D) = _
        rw [e]
        rfl
      have hbd : bdsD [.l I] = [.i (bndS I).1, .i (bndS I).2.1, .i (bndS I).2.2.1, .i (bndS I).2.2.2] := rfl
      have hbt : bdsD [.l (downN (fun j => [cellsN 8 (el I j)]) I.length)] = [.i (bndS I).1, .i (bndS I).2.1, .i (bndS I).2.2.1, .i (bndS I).2.2.2] := by
        show dQ (bndS (downN (fun j => [cellsN 8 (el I j)]) I.length)) = _
        rw [turned_bnd]
        rfl
      have hbp : bdPre [.l I] := by show I.length ≤ 1000000; omega
      have hbq : bdPre [.l (downN (fun j => [cellsN 8 (el I j)]) I.length)] := by
        show (downN (fun j => [cellsN 8 (el I j)]) I.length).length ≤ 1000000
        have := down_len (f := fun j => [cellsN 8 (el I j)]) (n := I.length) (m := 1) (fun _ => Nat.le_refl _)
        omega
      have hmv : ∀ (q : Bx) (J : List (List D)) (u v : Int), moveD [.i q.1, .i q.2.1, .i q.2.2.1, .i q.2.2.2, .l J, .i u, .i v] = outS (moveS q J u v) := fun _ _ _ _ => rfl
      have hmv0 : ∀ (u v : Int), moveD [.i a, .i b, .i c, .i d, .l I, .i u, .i v] = outS (moveS (a, b, c, d) I u v) := fun _ _ => rfl
      have hok : ∀ x ∈ I, okIt x := fun x hx => okIt_of (hfx x hx)
      have hsm : ∀ (q : Bx) (J : List (List D)), sameSD [.i q.1, .i q.2.1, .i q.2.2.1, .i q.2.2.2, .l J, .i q.1, .i q.2.1, .i q.2.2.1, .i q.2.2.2, .l J] = [.b true] := fun q J => by
        show [D.b (sameS q J q J)] = _
        rw [sameS_refl]
      have hsm0 : sameSD [.i a, .i b, .i c, .i d, .l I, .i a, .i b, .i c, .i d, .l I] = [.b true] := hsm (a, b, c, d) I
      have hva : ∀ (q : Bx) (J : List (List D)), valD [.i q.1, .i q.2.1, .i q.2.2.1, .i q.2.2.2, .l J] = [.i (validS J q)] := fun _ _ => rfl
      obtain ⟨⟨q, J, e⟩, hr⟩ : ∃ r, moveS (a, b, c, d) I x y = r := ⟨_, rfl⟩
      have k0 : ((0 : Int) == 0) = true := rfl
      have k1 : ((1 : Int) == 0) = false := rfl
      by_cases he : e = 0
      · subst he
        obtain ⟨r1, r2, r3⟩ := back_all hok n1 n2 n3 n4 hr
        obtain ⟨⟨q2, J2, e2⟩, hr2⟩ : ∃ r, moveS (a, b, c, d) I (x + z) (y + w) = r := ⟨_, rfl⟩
        rw [hr2] at r3
        simp only [vt8, VT.ok, Nd.holds, X.outs, X.ds, X.d, Op1.ev, Op2.ev, takeD_zero, takeD_cons, List.cons_append, List.nil_append, List.getD_cons_zero, List.getD_cons_succ, D.int_i, D.bool_b, D.lst_l, if_true, Bool.false_eq_true, if_false, implies_true, true_and, and_true, F13, R13, F11, R11, F9, R9, F21, R21, F18, R18, F10, R10, F10800, R10800, F10801, R10801, hfw, hb, ho, Bool.not_true, hl0, h, k1, w1, hl1, hbt, hbd, beq_self_eq_true, hmv0, hr, outS, w2, w3, w4, w5, hmv, r1, r3, hr2, hva, r2, hsm, hsm0]
        exact ⟨fun _ => hp0, fun _ => hp1, fun _ => hbq, fun _ => hbp⟩
      · simp only [vt8, VT.ok, Nd.holds, X.outs, X.ds, X.d, Op1.ev, Op2.ev, takeD_zero, takeD_cons, List.cons_append, List.nil_append, List.getD_cons_zero, List.getD_cons_succ, D.int_i, D.bool_b, D.lst_l, ite_b, ite_and, if_true, Bool.false_eq_true, if_false, implies_true, true_and, and_true, F13, R13, F11, R11, F9, R9, F21, R21, F18, R18, F10, R10, F10800, R10800, F10801, R10801, hfw, hb, ho, Bool.not_true, Bool.not_false, hl0, h, k1, w1, hl1, hbt, hbd, beq_self_eq_true, hmv0, hr, outS, beq_f he]
        exact ⟨fun _ => hp0, fun _ => hp1, fun _ => hbq, fun _ => hbp⟩
end Go.Proofs.Ythpppbfiiphgoaa.rv
