/-
 Graphs: what is valid.; Graphs: equal lists and graphs; skeletons.; Cycles: the least number of backward arcs, walked.; Cycles: the table over sets, walked.; Cycles: digraphs are valid; the number of arcs between vertices.; Cycles: the least set, walked.; Cycles: Least, walked.; Cycles: Flip and Break, walked.; Cycles: the reference's search, walked.
-/
import Derived.Test.YtinaaabmmjpijaaDoorZTopGrowsN
namespace Go.Proofs.YtinaaabmmjpijaaDoor.rv
set_option maxRecDepth 10000
open Go.RV
theorem edgeD7 (a b : D) (N : List (List D)) (c d : D) (x : List D) : edgeD [a, b, .l N, c, d, x.getD 0 default, x.getD 1 default, x.getD 2 default, x.getD 3 default, x.getD 4 default, x.getD 5 default, x.getD 6 default] = [.i (edgeE N x)] := rfl
theorem loopM17_0 : LoopMeets Tryd.prog F (R L17_0.key) L17_0 lb17_0 := by
 refine loop_meets (pre := R) mixed (sgAt_all (P := Tryd.prog) (pre := R) (Φ := F) (l := sg17) (fcm ⟨m29, fcm ⟨m30, fcm ⟨m31, fcm ⟨m32, (fun _ h => nomatch h)⟩⟩⟩⟩)) (loops_n 0 lk17_0 fun k hk => by omega) L17_0 (fun ρ => ((ρ.getD 1 default).int - (ρ.getD 2 default).int).toNat) le17_0 fun ρ _ hq => ?_
 obtain ⟨v, g, j, rfl, hj, hm⟩ : prV0 ρ := hq
 rw [maxLen_val] at hm
 by_cases hlt : j < g.N.length
 ·have hN : nodeE g.N g.C j = 0 → RoundOk F (R L17_0.key) (fun ρ => ((ρ.getD 1 default).int - (ρ.getD 2 default).int).toNat) L17_0 [v, .i (g.N.length : Int), .i (j : Int), .s g.nm, .b g.dr, .l g.N, .l g.E, .l g.C] [.i (-1), v, .i ((j + 1 : Nat) : Int)] := fun h0 => by
   refine round_next ⟨⟨v, g, j + 1, rfl, by omega, hm⟩, ?_, ?_⟩
   ·show ((g.N.length : Int) - ((j + 1 : Nat) : Int)).toNat < ((g.N.length : Int) - (j : Int)).toNat
    omega
   ·show lpV0 [v, .i (g.N.length : Int), .i ((j + 1 : Nat) : Int), .s g.nm, .b g.dr, .l g.N, .l g.E, .l g.C] = lpV0 [v, .i (g.N.length : Int), .i (j : Int), .s g.nm, .b g.dr, .l g.N, .l g.E, .l g.C]
    simp only [lpV0, errLp, tn0]
    exact scan_next hlt (by simp only [er, h0]; rfl)
  have hX : ∀ z : Int, nodeE g.N g.C j = z → z ≠ 0 → RoundOk F (R L17_0.key) (fun ρ => ((ρ.getD 1 default).int - (ρ.getD 2 default).int).toNat) L17_0 [v, .i (g.N.length : Int), .i (j : Int), .s g.nm, .b g.dr, .l g.N, .l g.E, .l g.C] [.i 0, .i z, .i (j : Int)] := fun z h0 hz => by
   refine round_exit (by omega) ?_
   show lpV0 [v, .i (g.N.length : Int), .i (j : Int), .s g.nm, .b g.dr, .l g.N, .l g.E, .l g.C] = _
   simp only [lpV0, errLp, tn0]
   rw [← h0]
   exact scan_hit hlt (by simp only [er, h0]; simpa using hz)
  have hpre : prNode [.s g.nm, .b g.dr, .l g.N, .l g.E, .l g.C, .i (j : Int)] := ⟨j, rfl, hlt⟩
  simp (disch := omega) only [rt17_0, VT.ok, Nd.holds, X.outs, X.ds, X.d, Op1.ev, Op2.ev, takeD_zero, takeD_cons, List.cons_append, List.nil_append, gz0, gs0, D.int_i, D.bool_b, D.lst_l, tn0, F30, R30, ↓reduceIte, dlt_t, w64', nodeD, cL, cI, tn0]
  refine ⟨fun _ => hpre, ?_⟩
  by_cases h : nodeE g.N g.C j = 0
  ·rw [if_neg (by exact bne_f h)]
   exact hN h
  ·rw [if_pos (by exact bne_t h)]
   exact hX _ rfl h
 ·have hj' : j = g.N.length := by omega
  subst hj'
  simp (disch := omega) only [rt17_0, VT.ok, X.ds, X.d, Op2.ev, gz0, gs0, D.int_i, D.bool_b, fe0, ↓reduceIte, dlt_f]
  refine round_exit (by omega) ?_
  show lpV0 [v, .i (g.N.length : Int), .i (g.N.length : Int), .s g.nm, .b g.dr, .l g.N, .l g.E, .l g.C] = _
  simp only [lpV0, errLp, tn0]
  exact scan_end
theorem loopM5_0 : LoopMeets Tryd.prog F (R L5_0.key) L5_0 lb5_0 := by
 refine loop_meets (pre := R) mixed (sgAt_all (P := Tryd.prog) (pre := R) (Φ := F) (l := sg5) (fcm ⟨m10, fcm ⟨m11, fcm ⟨m12, fcm ⟨m13, (fun _ h => nomatch h)⟩⟩⟩⟩)) (loops_n 0 lk5_0 fun k hk => by omega) L5_0 (fun ρ => (((ρ.getD 4 default).lst.length : Int) - (ρ.getD 1 default).int).toNat) le5_0 fun ρ _ hq => ?_
 obtain ⟨v, g, j, rfl, hj, hm⟩ : prW0 ρ := hq
 rw [maxLen_val] at hm
 by_cases hlt : j < g.N.length
 ·have hN : nodeE g.N g.C j = 0 → RoundOk F (R L5_0.key) (fun ρ => (((ρ.getD 4 default).lst.length : Int) - (ρ.getD 1 default).int).toNat) L5_0 [v, .i (j : Int), .s g.nm, .b g.dr, .l g.N, .l g.E, .l g.C] [.i (-1), v, .i ((j + 1 : Nat) : Int)] := fun h0 => by
   refine round_next ⟨⟨v, g, j + 1, rfl, by omega, hm⟩, ?_, ?_⟩
   ·show ((g.N.length : Int) - ((j + 1 : Nat) : Int)).toNat < ((g.N.length : Int) - (j : Int)).toNat
    omega
   ·show lpW0 [v, .i ((j + 1 : Nat) : Int), .s g.nm, .b g.dr, .l g.N, .l g.E, .l g.C] = lpW0 [v, .i (j : Int), .s g.nm, .b g.dr, .l g.N, .l g.E, .l g.C]
    simp only [lpW0, errLp, tn0]
    exact scan_next hlt (by simp only [er, h0]; rfl)
  have hX : ∀ z : Int, nodeE g.N g.C j = z → z ≠ 0 → RoundOk F (R L5_0.key) (fun ρ => (((ρ.getD 4 default).lst.length : Int) - (ρ.getD 1 default).int).toNat) L5_0 [v, .i (j : Int), .s g.nm, .b g.dr, .l g.N, .l g.E, .l g.C] [.i 0, .i z, .i (j : Int)] := fun z h0 hz => by
   refine round_exit (by omega) ?_
   show lpW0 [v, .i (j : Int), .s g.nm, .b g.dr, .l g.N, .l g.E, .l g.C] = _
   simp only [lpW0, errLp, tn0]
   rw [← h0]
   exact scan_hit hlt (by simp only [er, h0]; simpa using hz)
  have hpre : prNode [.s g.nm, .b g.dr, .l g.N, .l g.E, .l g.C, .i (j : Int)] := ⟨j, rfl, hlt⟩
  simp (disch := omega) only [rt5_0, VT.ok, Nd.holds, X.outs, X.ds, X.d, Op1.ev, Op2.ev, takeD_zero, takeD_cons, List.cons_append, List.nil_append, gz0, gs0, D.int_i, D.bool_b, D.lst_l, tn0, F11, R11, ↓reduceIte, dlt_t, w64', nodeD, cL, cI, tn0]
  refine ⟨fun _ => hpre, ?_⟩
  by_cases h : nodeE g.N g.C j = 0
  ·rw [if_neg (by exact bne_f h)]
   exact hN h
  ·rw [if_pos (by exact bne_t h)]
   exact hX _ rfl h
 ·have hj' : j = g.N.length := by omega
  subst hj'
  simp (disch := omega) only [rt5_0, VT.ok, X.ds, X.d, Op1.ev, Op2.ev, gz0, gs0, D.int_i, D.bool_b, D.lst_l, fe0, ↓reduceIte, dlt_f]
  refine round_exit (by omega) ?_
  show lpW0 [v, .i (g.N.length : Int), .s g.nm, .b g.dr, .l g.N, .l g.E, .l g.C] = _
  simp only [lpW0, errLp, tn0]
  exact scan_end
theorem loopM17_1 : LoopMeets Tryd.prog F (R L17_1.key) L17_1 lb17_1 := by
 refine loop_meets (pre := R) mixed (sgAt_all (P := Tryd.prog) (pre := R) (Φ := F) (l := sg17) (fcm ⟨m29, fcm ⟨m30, fcm ⟨m31, fcm ⟨m32, (fun _ h => nomatch h)⟩⟩⟩⟩)) (loops_n 0 lk17_1 fun k hk => by omega) L17_1 (fun ρ => ((ρ.getD 1 default).int - (ρ.getD 2 default).int).toNat) le17_1 fun ρ _ hq => ?_
 obtain ⟨v, g, j, rfl, hj, h16, hk⟩ : prV1 ρ := hq
 by_cases hlt : j < g.C.length
 ·have hN : cluE g.N g.C j = 0 → RoundOk F (R L17_1.key) (fun ρ => ((ρ.getD 1 default).int - (ρ.getD 2 default).int).toNat) L17_1 [v, .i (g.C.length : Int), .i (j : Int), .s g.nm, .b g.dr, .l g.N, .l g.E, .l g.C] [.i (-1), v, .i ((j + 1 : Nat) : Int)] := fun h0 => by
   refine round_next ⟨⟨v, g, j + 1, rfl, by omega, h16, by intro k hk'; rcases Nat.lt_or_ge k j with e | e; exact hk k e; rw [show k = j by omega]; exact h0⟩, ?_, ?_⟩
   ·show ((g.C.length : Int) - ((j + 1 : Nat) : Int)).toNat < ((g.C.length : Int) - (j : Int)).toNat
    omega
   ·show lpV1 [v, .i (g.C.length : Int), .i ((j + 1 : Nat) : Int), .s g.nm, .b g.dr, .l g.N, .l g.E, .l g.C] = lpV1 [v, .i (g.C.length : Int), .i (j : Int), .s g.nm, .b g.dr, .l g.N, .l g.E, .l g.C]
    simp only [lpV1, errLp, tn0]
    exact scan_next hlt (by simp only [er, h0]; rfl)
  have hX : ∀ z : Int, cluE g.N g.C j = z → z ≠ 0 → RoundOk F (R L17_1.key) (fun ρ => ((ρ.getD 1 default).int - (ρ.getD 2 default).int).toNat) L17_1 [v, .i (g.C.length : Int), .i (j : Int), .s g.nm, .b g.dr, .l g.N, .l g.E, .l g.C] [.i 0, .i z, .i (j : Int)] := fun z h0 hz => by
   refine round_exit (by omega) ?_
   show lpV1 [v, .i (g.C.length : Int), .i (j : Int), .s g.nm, .b g.dr, .l g.N, .l g.E, .l g.C] = _
   simp only [lpV1, errLp, tn0]
   rw [← h0]
   exact scan_hit hlt (by simp only [er, h0]; simpa using hz)
  have hpre : prClu [.s g.nm, .b g.dr, .l g.N, .l g.E, .l g.C, .i (j : Int)] := ⟨j, rfl, hlt, h16, okC_of hk⟩
  simp (disch := omega) only [rt17_1, VT.ok, Nd.holds, X.outs, X.ds, X.d, Op1.ev, Op2.ev, takeD_zero, takeD_cons, List.cons_append, List.nil_append, gz0, gs0, D.int_i, D.bool_b, D.lst_l, tn0, F31, R31, ↓reduceIte, dlt_t, w64', cluD, cL, cI, tn0]
  refine ⟨fun _ => hpre, ?_⟩
  by_cases h : cluE g.N g.C j = 0
  ·rw [if_neg (by exact bne_f h)]
   exact hN h
  ·rw [if_pos (by exact bne_t h)]
   exact hX _ rfl h
 ·have hj' : j = g.C.length := by omega
  subst hj'
  simp (disch := omega) only [rt17_1, VT.ok, X.ds, X.d, Op2.ev, gz0, gs0, D.int_i, D.bool_b, fe0, ↓reduceIte, dlt_f]
  refine round_exit (by omega) ?_
  show lpV1 [v, .i (g.C.length : Int), .i (g.C.length : Int), .s g.nm, .b g.dr, .l g.N, .l g.E, .l g.C] = _
  simp only [lpV1, errLp, tn0]
  exact scan_end
theorem loopM5_1 : LoopMeets Tryd.prog F (R L5_1.key) L5_1 lb5_1 := by
 refine loop_meets (pre := R) mixed (sgAt_all (P := Tryd.prog) (pre := R) (Φ := F) (l := sg5) (fcm ⟨m10, fcm ⟨m11, fcm ⟨m12, fcm ⟨m13, (fun _ h => nomatch h)⟩⟩⟩⟩)) (loops_n 0 lk5_1 fun k hk => by omega) L5_1 (fun ρ => (((ρ.getD 6 default).lst.length : Int) - (ρ.getD 1 default).int).toNat) le5_1 fun ρ _ hq => ?_
 obtain ⟨v, g, j, rfl, hj, h16, hk⟩ : prW1 ρ := hq
 by_cases hlt : j < g.C.length
 ·have hN : cluE g.N g.C j = 0 → RoundOk F (R L5_1.key) (fun ρ => (((ρ.getD 6 default).lst.length : Int) - (ρ.getD 1 default).int).toNat) L5_1 [v, .i (j : Int), .s g.nm, .b g.dr, .l g.N, .l g.E, .l g.C] [.i (-1), v, .i ((j + 1 : Nat) : Int)] := fun h0 => by
   refine round_next ⟨⟨v, g, j + 1, rfl, by omega, h16, by intro k hk'; rcases Nat.lt_or_ge k j with e | e; exact hk k e; rw [show k = j by omega]; exact h0⟩, ?_, ?_⟩
   ·show ((g.C.length : Int) - ((j + 1 : Nat) : Int)).toNat < ((g.C.length : Int) - (j : Int)).toNat
    omega
   ·show lpW1 [v, .i ((j + 1 : Nat) : Int), .s g.nm, .b g.dr, .l g.N, .l g.E, .l g.C] = lpW1 [v, .i (j : Int), .s g.nm, .b g.dr, .l g.N, .l g.E, .l g.C]
    simp only [lpW1, errLp, tn0]
    exact scan_next hlt (by simp only [er, h0]; rfl)
  have hX : ∀ z : Int, cluE g.N g.C j = z → z ≠ 0 → RoundOk F (R L5_1.key) (fun ρ => (((ρ.getD 6 default).lst.length : Int) - (ρ.getD 1 default).int).toNat) L5_1 [v, .i (j : Int), .s g.nm, .b g.dr, .l g.N, .l g.E, .l g.C] [.i 0, .i z, .i (j : Int)] := fun z h0 hz => by
   refine round_exit (by omega) ?_
   show lpW1 [v, .i (j : Int), .s g.nm, .b g.dr, .l g.N, .l g.E, .l g.C] = _
   simp only [lpW1, errLp, tn0]
   rw [← h0]
   exact scan_hit hlt (by simp only [er, h0]; simpa using hz)
  have hpre : prClu [.s g.nm, .b g.dr, .l g.N, .l g.E, .l g.C, .i (j : Int)] := ⟨j, rfl, hlt, h16, okC_of hk⟩
  simp (disch := omega) only [rt5_1, VT.ok, Nd.holds, X.outs, X.ds, X.d, Op1.ev, Op2.ev, takeD_zero, takeD_cons, List.cons_append, List.nil_append, gz0, gs0, D.int_i, D.bool_b, D.lst_l, tn0, F12, R12, ↓reduceIte, dlt_t, w64', cluD, cL, cI, tn0]
  refine ⟨fun _ => hpre, ?_⟩
  by_cases h : cluE g.N g.C j = 0
  ·rw [if_neg (by exact bne_f h)]
   exact hN h
  ·rw [if_pos (by exact bne_t h)]
   exact hX _ rfl h
 ·have hj' : j = g.C.length := by omega
  subst hj'
  simp (disch := omega) only [rt5_1, VT.ok, X.ds, X.d, Op1.ev, Op2.ev, gz0, gs0, D.int_i, D.bool_b, D.lst_l, fe0, ↓reduceIte, dlt_f]
  refine round_exit (by omega) ?_
  show lpW1 [v, .i (g.C.length : Int), .s g.nm, .b g.dr, .l g.N, .l g.E, .l g.C] = _
  simp only [lpW1, errLp, tn0]
  exact scan_end
theorem loopM17_2 : LoopMeets Tryd.prog F (R L17_2.key) L17_2 lb17_2 := by
 refine loop_meets (pre := R) mixed (sgAt_all (P := Tryd.prog) (pre := R) (Φ := F) (l := sg17) (fcm ⟨m29, fcm ⟨m30, fcm ⟨m31, fcm ⟨m32, (fun _ h => nomatch h)⟩⟩⟩⟩)) (loops_n 0 lk17_2 fun k hk => by omega) L17_2 (fun ρ => ((ρ.getD 2 default).int - (ρ.getD 3 default).int).toNat) le17_2 fun ρ _ hq => ?_
 obtain ⟨v, g, j, rfl, hj, hm⟩ : prV2 ρ := hq
 rw [maxLen_val] at hm
 by_cases hlt : j < g.E.length
 ·have hN : edgeE g.N (el g.E j) = 0 → RoundOk F (R L17_2.key) (fun ρ => ((ρ.getD 2 default).int - (ρ.getD 3 default).int).toNat) L17_2 [v, .l g.E, .i (g.E.length : Int), .i (j : Int), .s g.nm, .b g.dr, .l g.N, .l g.E, .l g.C] [.i (-1), v, .i ((j + 1 : Nat) : Int)] := fun h0 => by
   refine round_next ⟨⟨v, g, j + 1, rfl, by omega, hm⟩, ?_, ?_⟩
   ·show ((g.E.length : Int) - ((j + 1 : Nat) : Int)).toNat < ((g.E.length : Int) - (j : Int)).toNat
    omega
   ·show lpV2 [v, .l g.E, .i (g.E.length : Int), .i ((j + 1 : Nat) : Int), .s g.nm, .b g.dr, .l g.N, .l g.E, .l g.C] = lpV2 [v, .l g.E, .i (g.E.length : Int), .i (j : Int), .s g.nm, .b g.dr, .l g.N, .l g.E, .l g.C]
    simp only [lpV2, errLp, tn0]
    exact scan_next hlt (by simp only [er, h0]; rfl)
  have hX : ∀ z : Int, edgeE g.N (el g.E j) = z → z ≠ 0 → RoundOk F (R L17_2.key) (fun ρ => ((ρ.getD 2 default).int - (ρ.getD 3 default).int).toNat) L17_2 [v, .l g.E, .i (g.E.length : Int), .i (j : Int), .s g.nm, .b g.dr, .l g.N, .l g.E, .l g.C] [.i 0, .i z, .i (j : Int)] := fun z h0 hz => by
   refine round_exit (by omega) ?_
   show lpV2 [v, .l g.E, .i (g.E.length : Int), .i (j : Int), .s g.nm, .b g.dr, .l g.N, .l g.E, .l g.C] = _
   simp only [lpV2, errLp, tn0]
   rw [← h0]
   exact scan_hit hlt (by simp only [er, h0]; simpa using hz)
  simp (disch := omega) only [rt17_2, VT.ok, Nd.holds, X.outs, X.ds, X.d, Op1.ev, Op2.ev, takeD_zero, takeD_cons, List.cons_append, List.nil_append, gz0, gs0, D.int_i, D.bool_b, D.lst_l, tn0, implies_true, true_and, F32, R32, ↓reduceIte, dle_t, dlt_t, w64', edgeD7, tn0]
  by_cases h : edgeE g.N (el g.E j) = 0
  ·rw [if_neg (by exact bne_f h)]
   exact hN h
  ·rw [if_pos (by exact bne_t h)]
   exact hX _ rfl h
 ·have hj' : j = g.E.length := by omega
  subst hj'
  simp (disch := omega) only [rt17_2, VT.ok, X.ds, X.d, Op2.ev, gz0, gs0, D.int_i, D.bool_b, fe0, ↓reduceIte, dlt_f]
  refine round_exit (by omega) ?_
  show lpV2 [v, .l g.E, .i (g.E.length : Int), .i (g.E.length : Int), .s g.nm, .b g.dr, .l g.N, .l g.E, .l g.C] = _
  simp only [lpV2, errLp, tn0]
  exact scan_end
theorem loopM5_2 : LoopMeets Tryd.prog F (R L5_2.key) L5_2 lb5_2 := by
 refine loop_meets (pre := R) mixed (sgAt_all (P := Tryd.prog) (pre := R) (Φ := F) (l := sg5) (fcm ⟨m10, fcm ⟨m11, fcm ⟨m12, fcm ⟨m13, (fun _ h => nomatch h)⟩⟩⟩⟩)) (loops_n 0 lk5_2 fun k hk => by omega) L5_2 (fun ρ => (((ρ.getD 5 default).lst.length : Int) - (ρ.getD 1 default).int).toNat) le5_2 fun ρ _ hq => ?_
 obtain ⟨v, g, j, rfl, hj, hm⟩ : prW2 ρ := hq
 rw [maxLen_val] at hm
 by_cases hlt : j < g.E.length
 ·have hN : edgeE g.N (el g.E j) = 0 → RoundOk F (R L5_2.key) (fun ρ => (((ρ.getD 5 default).lst.length : Int) - (ρ.getD 1 default).int).toNat) L5_2 [v, .i (j : Int), .s g.nm, .b g.dr, .l g.N, .l g.E, .l g.C] [.i (-1), v, .i ((j + 1 : Nat) : Int)] := fun h0 => by
   refine round_next ⟨⟨v, g, j + 1, rfl, by omega, hm⟩, ?_, ?_⟩
   ·show ((g.E.length : Int) - ((j + 1 : Nat) : Int)).toNat < ((g.E.length : Int) - (j : Int)).toNat
    omega
   ·show lpW2 [v, .i ((j + 1 : Nat) : Int), .s g.nm, .b g.dr, .l g.N, .l g.E, .l g.C] = lpW2 [v, .i (j : Int), .s g.nm, .b g.dr, .l g.N, .l g.E, .l g.C]
    simp only [lpW2, errLp, tn0]
    exact scan_next hlt (by simp only [er, h0]; rfl)
  have hX : ∀ z : Int, edgeE g.N (el g.E j) = z → z ≠ 0 → RoundOk F (R L5_2.key) (fun ρ => (((ρ.getD 5 default).lst.length : Int) - (ρ.getD 1 default).int).toNat) L5_2 [v, .i (j : Int), .s g.nm, .b g.dr, .l g.N, .l g.E, .l g.C] [.i 0, .i z, .i (j : Int)] := fun z h0 hz => by
   refine round_exit (by omega) ?_
   show lpW2 [v, .i (j : Int), .s g.nm, .b g.dr, .l g.N, .l g.E, .l g.C] = _
   simp only [lpW2, errLp, tn0]
   rw [← h0]
   exact scan_hit hlt (by simp only [er, h0]; simpa using hz)
  simp (disch := omega) only [rt5_2, VT.ok, Nd.holds, X.outs, X.ds, X.d, Op1.ev, Op2.ev, takeD_zero, takeD_cons, List.cons_append, List.nil_append, gz0, gs0, D.int_i, D.bool_b, D.lst_l, tn0, implies_true, true_and, F13, R13, ↓reduceIte, dle_t, dlt_t, w64', edgeD7, tn0]
  by_cases h : edgeE g.N (el g.E j) = 0
  ·rw [if_neg (by exact bne_f h)]
   exact hN h
  ·rw [if_pos (by exact bne_t h)]
   exact hX _ rfl h
 ·have hj' : j = g.E.length := by omega
  subst hj'
  simp (disch := omega) only [rt5_2, VT.ok, X.ds, X.d, Op1.ev, Op2.ev, gz0, gs0, D.int_i, D.bool_b, D.lst_l, fe0, ↓reduceIte, dlt_f]
  refine round_exit (by omega) ?_
  show lpW2 [v, .i (g.E.length : Int), .s g.nm, .b g.dr, .l g.N, .l g.E, .l g.C] = _
  simp only [lpW2, errLp, tn0]
  exact scan_end
theorem m17 : Meets Tryd.prog 17 S17 (R 17) (F 17) := by
 refine meets_of_vt (pre := R) (Φ := F) mixed (sgAt_all (P := Tryd.prog) (pre := R) (Φ := F) (l := sg17) (fcm ⟨m29, fcm ⟨m30, fcm ⟨m31, fcm ⟨m32, (fun _ h => nomatch h)⟩⟩⟩⟩)) Tryd.func17 b17 n17 (loops_n 3 k17 fun k hk => match k, hk with | 0, _ => loop_this lf17_0 loopM17_0 | 1, _ => loop_this lf17_1 loopM17_1 | 2, _ => loop_this lf17_2 loopM17_2) e17 fun ds hf hq => ?_
 obtain ⟨g, ds', rfl, h5, hnm, ⟨hmN, _⟩, ⟨hmE, _⟩, ⟨hmC, _⟩⟩ := fitsG hf.flat
 have e0 := fits0 h5
 subst e0
 have hF : F 17 [.s g.nm, .b g.dr, .l g.N, .l g.E, .l g.C] = [.i (validE g)] := rfl
 rw [hF]
 generalize hv : validE g = res
 unfold validE at hv
 by_cases h0 : 64 < (g.N.length : Int) ∨ 256 < (g.E.length : Int) ∨ 16 < (g.C.length : Int)
 ·rw [if_pos h0] at hv
  have hc : ((decide (64 < (g.N.length : Int)) || decide (256 < (g.E.length : Int))) || decide (16 < (g.C.length : Int))) = true := by
   simp only [Bool.or_eq_true, decide_eq_true_eq]
   omega
  simp only [vt17, VT.ok, Nd.holds, X.outs, X.ds, X.d, Op1.ev, Op2.ev, List.cons_append, List.nil_append, gz0, gs0, D.int_i, D.bool_b, D.lst_l, ite_b, ite_or, if_true, takeD1_0, hc]
  rw [hv]
 ·rw [if_neg h0] at hv
  have p0 : prV0 [.i 0, .i (g.N.length : Int), .i 0, .s g.nm, .b g.dr, .l g.N, .l g.E, .l g.C] := ⟨_, g, 0, rfl, by omega, hmN⟩
  have p1 : ∀ v, prV1 [v, .i (g.C.length : Int), .i 0, .s g.nm, .b g.dr, .l g.N, .l g.E, .l g.C] := fun v => ⟨_, g, 0, rfl, by omega, by omega, fun k hk => by omega⟩
  have p2 : ∀ v, prV2 [v, .l g.E, .i (g.E.length : Int), .i 0, .s g.nm, .b g.dr, .l g.N, .l g.E, .l g.C] := fun v => ⟨_, g, 0, rfl, by omega, hmE⟩
  simp (disch := omega) only [vt17, VT.ok, Nd.holds, X.outs, X.ds, X.d, Op1.ev, Op2.ev, takeD_zero, takeD_cons, List.cons_append, List.nil_append, gz0, gs0, D.int_i, D.bool_b, D.lst_l, D.str_s, fe0, implies_true, true_and, F29, R29, F11700, R11700, F11701, R11701, F11702, R11702, ↓reduceIte, dlt_f, nameD, cS, lpV0, lpV1, lpV2, Int.toNat_zero]
  cases h1 : isName g.nm
  ·rw [h1] at hv
   simp only [Bool.not_false, if_true]
   rw [← hv]; rfl
  ·rw [h1] at hv
   simp only [if_true, Bool.not_true, fe0, if_false] at hv ⊢
   refine ⟨fun _ => p0, ?_⟩
   rcases errLp_two (nodeE g.N g.C) (.i 0) g.N.length with ⟨h2, h3⟩ | ⟨h2, _, h3⟩
   ·rw [if_neg h2] at hv
    simp only [h3, takeD_zero, takeD_cons, gz0, gs0, D.int_i, ↓reduceIte, beq_t]
    rw [hv]
   ·rw [if_pos h2] at hv
    simp only [h3, takeD_zero, takeD_cons, List.cons_append, List.nil_append, gz0, gs0, D.int_i]
    rw [if_neg (by decide)]
    refine ⟨fun _ => p1 _, ?_⟩
    rcases errLp_two (cluE g.N g.C) (.i 0) g.C.length with ⟨h4, h5⟩ | ⟨h4, _, h5⟩
    ·rw [if_neg h4] at hv
     simp only [h5, takeD_zero, takeD_cons, List.cons_append, List.nil_append, gz0, gs0, D.int_i]
     rw [if_pos (by rfl), hv]
    ·rw [if_pos h4] at hv
     simp only [h5, takeD_zero, takeD_cons, List.cons_append, List.nil_append, gz0, gs0, D.int_i]
     rw [if_neg (by decide)]
     refine ⟨fun _ => p2 _, ?_⟩
     rcases errLp_two (fun j => edgeE g.N (el g.E j)) (.i 0) g.E.length with ⟨h6, h7⟩ | ⟨h6, _, h7⟩
     ·simp only [h7, takeD_zero, takeD_cons, gz0, gs0, D.int_i]
      rw [if_pos (by rfl), hv]
     ·simp only [h7, takeD_zero, takeD_cons, gz0, gs0, D.int_i]
      rw [if_neg (by decide), ← hv, h6]
theorem m5 : Meets Tryd.prog 5 S5 (R 5) (F 5) := by
 refine meets_of_vt (pre := R) (Φ := F) mixed (sgAt_all (P := Tryd.prog) (pre := R) (Φ := F) (l := sg5) (fcm ⟨m10, fcm ⟨m11, fcm ⟨m12, fcm ⟨m13, (fun _ h => nomatch h)⟩⟩⟩⟩)) Tryd.func5 b5 n5 (loops_n 3 k5 fun k hk => match k, hk with | 0, _ => loop_this lf5_0 loopM5_0 | 1, _ => loop_this lf5_1 loopM5_1 | 2, _ => loop_this lf5_2 loopM5_2) e5 fun ds hf hq => ?_
 obtain ⟨g, ds', rfl, h5, hnm, ⟨hmN, _⟩, ⟨hmE, _⟩, ⟨hmC, _⟩⟩ := fitsG hf.flat
 have e0 := fits0 h5
 subst e0
 have hF : F 5 [.s g.nm, .b g.dr, .l g.N, .l g.E, .l g.C] = [.i (validE g)] := rfl
 rw [hF]
 generalize hv : validE g = res
 unfold validE at hv
 by_cases h0 : 64 < (g.N.length : Int) ∨ 256 < (g.E.length : Int) ∨ 16 < (g.C.length : Int)
 ·rw [if_pos h0] at hv
  have hc : ((decide (64 < (g.N.length : Int)) || decide (256 < (g.E.length : Int))) || decide (16 < (g.C.length : Int))) = true := by
   simp only [Bool.or_eq_true, decide_eq_true_eq]
   omega
  simp only [vt5, VT.ok, Nd.holds, X.outs, X.ds, X.d, Op1.ev, Op2.ev, List.cons_append, List.nil_append, gz0, gs0, D.int_i, D.bool_b, D.lst_l, ite_b, ite_or, if_true, takeD1_0, hc]
  rw [hv]
 ·rw [if_neg h0] at hv
  have p0 : prW0 [.i 0, .i 0, .s g.nm, .b g.dr, .l g.N, .l g.E, .l g.C] := ⟨_, g, 0, rfl, by omega, hmN⟩
  have p1 : ∀ v, prW1 [v, .i 0, .s g.nm, .b g.dr, .l g.N, .l g.E, .l g.C] := fun v => ⟨_, g, 0, rfl, by omega, by omega, fun k hk => by omega⟩
  have p2 : ∀ v, prW2 [v, .i 0, .s g.nm, .b g.dr, .l g.N, .l g.E, .l g.C] := fun v => ⟨_, g, 0, rfl, by omega, hmE⟩
  simp (disch := omega) only [vt5, VT.ok, Nd.holds, X.outs, X.ds, X.d, Op1.ev, Op2.ev, takeD_zero, takeD_cons, List.cons_append, List.nil_append, gz0, gs0, D.int_i, D.bool_b, D.lst_l, D.str_s, fe0, implies_true, true_and, F10, R10, F10500, R10500, F10501, R10501, F10502, R10502, ↓reduceIte, dlt_f, nameD, cS, lpW0, lpW1, lpW2, Int.toNat_zero]
  cases h1 : isName g.nm
  ·rw [h1] at hv
   simp only [Bool.not_false, if_true]
   rw [← hv]; rfl
  ·rw [h1] at hv
   simp only [if_true, Bool.not_true, fe0, if_false] at hv ⊢
   refine ⟨fun _ => p0, ?_⟩
   rcases errLp_two (nodeE g.N g.C) (.i 0) g.N.length with ⟨h2, h3⟩ | ⟨h2, _, h3⟩
   ·rw [if_neg h2] at hv
    simp only [h3, takeD_zero, takeD_cons, gz0, gs0, D.int_i, ↓reduceIte, beq_t]
    rw [hv]
   ·rw [if_pos h2] at hv
    simp only [h3, takeD_zero, takeD_cons, List.cons_append, List.nil_append, gz0, gs0, D.int_i]
    rw [if_neg (by decide)]
    refine ⟨fun _ => p1 _, ?_⟩
    rcases errLp_two (cluE g.N g.C) (.i 0) g.C.length with ⟨h4, h5⟩ | ⟨h4, _, h5⟩
    ·rw [if_neg h4] at hv
     simp only [h5, takeD_zero, takeD_cons, List.cons_append, List.nil_append, gz0, gs0, D.int_i]
     rw [if_pos (by rfl), hv]
    ·rw [if_pos h4] at hv
     simp only [h5, takeD_zero, takeD_cons, List.cons_append, List.nil_append, gz0, gs0, D.int_i]
     rw [if_neg (by decide)]
     refine ⟨fun _ => p2 _, ?_⟩
     rcases errLp_two (fun j => edgeE g.N (el g.E j)) (.i 0) g.E.length with ⟨h6, h7⟩ | ⟨h6, _, h7⟩
     ·simp only [h7, takeD_zero, takeD_cons, gz0, gs0, D.int_i]
      rw [if_pos (by rfl), hv]
     ·simp only [h7, takeD_zero, takeD_cons, gz0, gs0, D.int_i]
      rw [if_neg (by decide), ← hv, h6]
end Go.Proofs.YtinaaabmmjpijaaDoor.rv
namespace Go.Proofs.YtinaaabmmjpijaaDoor.rv
set_option maxRecDepth 10000
open Go.RV
theorem loopM34_0 : LoopMeets Tryd.prog F (R L34_0.key) L34_0 lb34_0 := by
 refine loop_meets (pre := R) mixed (sgAt_all (P := Tryd.prog) (pre := R) (Φ := F) (l := sg34) ((fun _ h => nomatch h))) (loops_n 0 lk34_0 fun k hk => by omega) L34_0 (fun ρ => ((ρ.getD 1 default).int - (ρ.getD 2 default).int).toNat) le34_0 fun ρ _ hq => ?_
 obtain ⟨E, j, n, acc, rfl, hj, hm, ha⟩ : prSk ρ := hq
 by_cases hlt : j < E.length
 ·simp (disch := omega) only [rt34_0, VT.ok, Nd.holds, X.ds, X.d, Op1.ev, Op2.ev, gz0, gs0, D.int_i, D.bool_b, D.lst_l, tn0, implies_true, true_and, ↓reduceIte, dle_t, dlt_t, w64', List.length_append, List.length_cons, List.length_nil]
  refine round_next ⟨⟨E, j + 1, n, acc ++ sk E j, rfl, by omega, hm, by rw [List.length_append, ha]; rfl⟩, ?_, ?_⟩
  ·show ((E.length : Int) - ((j + 1 : Nat) : Int)).toNat < ((E.length : Int) - (j : Int)).toNat
   omega
  ·show lpSk [.l E, .i (E.length : Int), .i ((j + 1 : Nat) : Int), n, .l (acc ++ sk E j)] = lpSk [.l E, .i (E.length : Int), .i (j : Int), n, .l acc]
   simp only [lpSk, tn0]
   rw [coll_next (f := sk E) hlt acc]
 ·have hj' : j = E.length := by omega
  subst hj'
  simp (disch := omega) only [rt34_0, VT.ok, X.ds, X.d, Op2.ev, gz0, gs0, D.int_i, D.bool_b, fe0, ↓reduceIte, dlt_f]
  refine round_exit (by omega) ?_
  show lpSk [.l E, .i (E.length : Int), .i (E.length : Int), n, .l acc] = _
  simp only [lpSk, tn0, coll_end]
theorem m34 : Meets Tryd.prog 34 S34 (R 34) (F 34) := by
 refine meets_of_vt (pre := R) (Φ := F) mixed (sgAt_all (P := Tryd.prog) (pre := R) (Φ := F) (l := sg34) ((fun _ h => nomatch h))) Tryd.func34 b34 n34 (loops_n 1 k34 fun k hk => match k, hk with | 0, _ => loop_this lf34_0 loopM34_0) e34 fun ds hf hq => ?_
 obtain ⟨g, ds', rfl, h5, _⟩ := fitsG hf.flat
 have e0 := fits0 h5
 subst e0
 have hq : g.E.length ≤ 1000000 := hq
 have hpre : prSk [.l g.E, .i (g.E.length : Int), .i 0, .i (g.N.length : Int), .l []] := ⟨g.E, 0, _, [], rfl, by omega, hq, rfl⟩
 simp only [vt34, VT.ok, Nd.holds, X.outs, X.ds, X.d, Op1.ev, takeD_zero, takeD_cons, List.cons_append, List.nil_append, gz0, gs0, D.bool_b, D.lst_l, and_true, F13400, R13400, F34, lpSk, skD, cL, Int.toNat_zero, List.nil_append]
 exact fun _ => hpre
theorem loopM28_0 : LoopMeets Tryd.prog F (R L28_0.key) L28_0 lb28_0 := by
 refine loop_meets (pre := R) mixed (sgAt_all (P := Tryd.prog) (pre := R) (Φ := F) (l := sg28) ((fun _ h => nomatch h))) (loops_n 0 lk28_0 fun k hk => by omega) L28_0 (fun ρ => (((ρ.getD 4 default).lst.length : Int) - (ρ.getD 0 default).int).toNat) le28_0 fun ρ _ hq => ?_
 obtain ⟨j, a, b, c, E, d, n, acc, rfl, hj, hm, ha⟩ : prSkR ρ := hq
 by_cases hlt : j < E.length
 ·simp (disch := omega) only [rt28_0, VT.ok, Nd.holds, X.ds, X.d, Op1.ev, Op2.ev, gz0, gs0, D.int_i, D.bool_b, D.lst_l, tn0, implies_true, true_and, ↓reduceIte, dle_t, dlt_t, w64', List.length_append, List.length_cons, List.length_nil]
  refine round_next ⟨⟨j + 1, a, b, c, E, d, n, acc ++ sk E j, rfl, by omega, hm, by rw [List.length_append, ha]; rfl⟩, ?_, ?_⟩
  ·show ((E.length : Int) - ((j + 1 : Nat) : Int)).toNat < ((E.length : Int) - (j : Int)).toNat
   omega
  ·show lpSkR [.i ((j + 1 : Nat) : Int), a, b, c, .l E, d, n, .l (acc ++ sk E j)] = lpSkR [.i (j : Int), a, b, c, .l E, d, n, .l acc]
   simp only [lpSkR, tn0]
   rw [coll_next (f := sk E) hlt acc]
 ·have hj' : j = E.length := by omega
  subst hj'
  simp (disch := omega) only [rt28_0, VT.ok, X.ds, X.d, Op1.ev, Op2.ev, gz0, gs0, D.int_i, D.bool_b, D.lst_l, fe0, ↓reduceIte, dlt_f]
  refine round_exit (by omega) ?_
  show lpSkR [.i (E.length : Int), a, b, c, .l E, d, n, .l acc] = _
  simp only [lpSkR, tn0, coll_end]
theorem m28 : Meets Tryd.prog 28 S28 (R 28) (F 28) := by
 refine meets_of_vt (pre := R) (Φ := F) mixed (sgAt_all (P := Tryd.prog) (pre := R) (Φ := F) (l := sg28) ((fun _ h => nomatch h))) Tryd.func28 b28 n28 (loops_n 1 k28 fun k hk => match k, hk with | 0, _ => loop_this lf28_0 loopM28_0) e28 fun ds hf hq => ?_
 obtain ⟨g, ds', rfl, h5, _⟩ := fitsG hf.flat
 have e0 := fits0 h5
 subst e0
 have hq : g.E.length ≤ 1000000 := hq
 have hpre : prSkR [.i 0, .s g.nm, .b g.dr, .l g.N, .l g.E, .l g.C, .i (g.N.length : Int), .l []] := ⟨0, _, _, _, g.E, _, _, [], rfl, by omega, hq, rfl⟩
 simp only [vt28, VT.ok, Nd.holds, X.outs, X.ds, X.d, Op1.ev, takeD_zero, takeD_cons, List.cons_append, List.nil_append, gz0, gs0, D.bool_b, D.lst_l, and_true, F12800, R12800, F28, lpSkR, skD, cL, Int.toNat_zero, List.nil_append]
 exact fun _ => hpre
end Go.Proofs.YtinaaabmmjpijaaDoor.rv
namespace Go.Proofs.YtinaaabmmjpijaaDoor.rv
set_option maxRecDepth 10000
open Go.RV Lo
theorem bvn {a : Nat} (h : a < 9223372036854775808) : (BitVec.ofInt IntKind.i64.bits (a : Int)).toNat = a := by
 show (BitVec.ofInt 64 (a : Int)).toNat = a
 rw [BitVec.toNat_ofInt]
 omega
theorem wnat {a : Nat} (h : a < 9223372036854775808) : IntKind.i64.wrap (a : Int) = (a : Int) := w64 (by omega)
theorem b_and {a b : Nat} (ha : a < 9223372036854775808) (hb : b < 9223372036854775808) : IntKind.i64.wrap ((BitVec.ofInt IntKind.i64.bits (a : Int) &&& BitVec.ofInt IntKind.i64.bits (b : Int)).toNat : Int) = ((a &&& b : Nat) : Int) := by
 rw [BitVec.toNat_and, bvn ha, bvn hb, wnat]
 exact Nat.lt_of_le_of_lt Nat.and_le_left ha
theorem b_or {a b : Nat} (ha : a < 256) (hb : b < 256) : IntKind.i64.wrap ((BitVec.ofInt IntKind.i64.bits (a : Int) ||| BitVec.ofInt IntKind.i64.bits (b : Int)).toNat : Int) = ((a ||| b : Nat) : Int) := by
 rw [BitVec.toNat_or, bvn (by omega), bvn (by omega), wnat]
 have := Nat.or_lt_two_pow (n := 8) ha hb
 omega
theorem b_dif {a b : Nat} (ha : a < 9223372036854775808) (hb : b < 9223372036854775808) : IntKind.i64.wrap ((BitVec.ofInt IntKind.i64.bits (a : Int) &&& ~~~BitVec.ofInt IntKind.i64.bits (b : Int)).toNat : Int) = ((dif a b : Nat) : Int) := by
 have e : ∀ x y : BitVec IntKind.i64.bits, x &&& ~~~y = x ^^^ (x &&& y) := fun x y => by
  refine BitVec.eq_of_getLsbD_eq fun i hi => ?_
  simp only [BitVec.getLsbD_and, BitVec.getLsbD_not, BitVec.getLsbD_xor, hi, decide_true, Bool.true_and]
  cases x.getLsbD i <;> cases y.getLsbD i <;> rfl
 rw [e, BitVec.toNat_xor, BitVec.toNat_and, bvn ha, bvn hb, wnat]
 ·rfl
 ·have h1 : a &&& b ≤ a := Nat.and_le_left
  exact Nat.xor_lt_two_pow (n := 63) ha (by omega)
theorem b_shl {v : Nat} (h : v < 62) : IntKind.i64.wrap ((1 : Int) * 2 ^ (Nat.min v IntKind.i64.bits)) = ((1 <<< v : Nat) : Int) := by
 have h1 : Nat.min v IntKind.i64.bits = v := by
  exact Nat.min_eq_left (by show v ≤ 64; omega)
 have h2 : ((1 <<< v : Nat) : Int) = 2 ^ v := by rw [Nat.one_shiftLeft]; simp
 have h3 : 2 ^ v < 2 ^ 62 := Nat.pow_lt_pow_right (by omega) h
 rw [h1, Int.one_mul, ← h2]
 refine wnat ?_
 rw [Nat.one_shiftLeft]; omega
theorem b_shr {s v : Nat} (h : v < 62) : (s : Int).fdiv (2 ^ (Nat.min v IntKind.i64.bits)) = ((s >>> v : Nat) : Int) := by
 have h1 : Nat.min v IntKind.i64.bits = v := by
  exact Nat.min_eq_left (by show v ≤ 64; omega)
 rw [h1, Nat.shiftRight_eq_div_pow, Int.fdiv_eq_ediv_of_nonneg]
 ·simp
 ·exact Int.le_of_lt (Int.pow_pos (by omega))
theorem bit_low : ∀ l, l < 256 → 0 < l → Lib.ctz 64 l < 8 ∧ bitsOf l = Lib.ctz 64 l :: bitsOf (l &&& (l - 1)) ∧ (l &&& (l - 1)) < l := by decide +kernel
theorem bits0 : bitsOf 0 = [] := by decide
theorem m80 : Meets Tryd.prog 80 S80 (R 80) (F 80) := by
 refine meets_of_vt (pre := R) (Φ := F) mixed (sgAt_all (P := Tryd.prog) (pre := R) (Φ := F) (l := sg80) (fcm ⟨m88, fcm ⟨m89, (fun _ h => nomatch h)⟩⟩)) Tryd.func80 b80 n80 (loops_n 0 k80 fun k hk => by omega) e80 fun ds _ hp => ?_
 obtain ⟨x, rfl, hx⟩ : tzPre ds := hp
 have hp : tzPre [.i (x : Int)] := ⟨x, rfl, hx⟩
 simp (disch := omega) only [vt80, VT.ok, Nd.holds, X.outs, X.ds, X.d, takeD_zero, takeD_cons, List.cons_append, List.nil_append, gz0, gs0, D.int_i, D.bool_b, tn0, and_true, F89, R89, F80, tzD]
 exact fun _ => hp
theorem loopM70_2 : LoopMeets Tryd.prog F (R L70_2.key) L70_2 lb70_2 := by
 refine loop_meets (pre := R) mixed (sgAt_all (P := Tryd.prog) (pre := R) (Φ := F) (l := sg70) (fcm ⟨m80, (fun _ h => nomatch h)⟩)) (loops_n 0 lk70_2 fun k hk => by omega) L70_2 (fun ρ => (ρ.getD 3 default).int.toNat) le70_2 fun ρ _ hp => ?_
 obtain ⟨N, cs, F, v, left, c, rfl, hX, hv, hl, hc0, hc1⟩ : prB2 ρ := hp
 by_cases hlt : 0 < left
 ·obtain ⟨b1, b2, b3⟩ := bit_low left hl hlt
  have hw : IntKind.u64.wrap (left : Int) = (left : Int) := by
   have : IntKind.u64.wrap (left : Int) = ((left : Int) % 18446744073709551616) := rfl
   omega
  have ht : tzPre [.i (left : Int)] := ⟨left, rfl, by omega⟩
  have hd : tzD [.i (left : Int)] = [.i (Lib.ctz 64 left)] := rfl
  have hlen : ((exD N cs F).ptd.length == 66) = true := by simp [exD, hX.c64]
  have hk : ((v : Int) * 8 + (Lib.ctz 64 left : Int)).toNat = v * 8 + Lib.ctz 64 left := by omega
  have hcell := cell_get (cs := cs) (k := v * 8 + Lib.ctz 64 left) (by rw [hX.c64]; omega)
  have hp := hX.pos (v * 8 + Lib.ctz 64 left)
  have e1 : (left : Int) - 1 = ((left - 1 : Nat) : Int) := by omega
  have e2 : IntKind.i64.wrap ((left - 1 : Nat) : Int) = ((left - 1 : Nat) : Int) := wnat (by omega)
  have e3 := b_and (a := left) (b := left - 1) (by omega) (by omega)
  simp (disch := omega) only [rt70_2, VT.ok, Nd.holds, X.outs, X.ds, X.d, Op1.ev, Op2.ev, takeD_zero, takeD_cons, List.cons_append, List.nil_append, gz0, gs0, D.int_i, D.bool_b, implies_true, true_and, F80, R80, ↓reduceIte, dle_t, dlt_t, w64', hw, hd, hlen, cells64 N F hX.c64, hk, hcell, e1, e2, e3]
  refine ⟨fun _ => ht, ?_⟩
  refine round_next ⟨⟨N, cs, F, v, left &&& (left - 1), c + cs.getD (v * 8 + Lib.ctz 64 left) 0, rfl, hX, hv, by omega, by omega, by omega⟩, ?_, ?_⟩
  ·show ((left &&& (left - 1) : Nat) : Int).toNat < ((left : Int)).toNat
   omega
  ·show lpB2 [exD N cs F, .i (v : Int), .i (c + cs.getD (v * 8 + Lib.ctz 64 left) 0), .i ((left &&& (left - 1) : Nat) : Int)] = lpB2 [exD N cs F, .i (v : Int), .i c, .i (left : Int)]
   simp only [lpB2, gz0, gs0, D.int_i, tn0, exC_ex N F hX.c64, sumB, b2, List.map_cons, List.sum_cons, cellAt, Int.add_assoc]
 ·have hl0 : left = 0 := by omega
  subst hl0
  simp (disch := omega) only [rt70_2, VT.ok, X.ds, X.d, Op2.ev, gz0, gs0, D.int_i, D.bool_b, fe0, ↓reduceIte, dlt_f]
  refine round_exit (by omega) ?_
  show lpB2 [exD N cs F, .i (v : Int), .i c, .i ((0 : Nat) : Int)] = _
  simp only [lpB2, gz0, gs0, D.int_i, tn0, sumB, bits0, List.map_nil, List.sum_nil, Int.add_zero]
  rfl
end Go.Proofs.YtinaaabmmjpijaaDoor.rv
namespace Go.Proofs.YtinaaabmmjpijaaDoor.rv
set_option maxRecDepth 10000
open Go.RV Lo
theorem sum_nn {f : Nat → Int} : ∀ l : List Nat, (∀ x ∈ l, 0 ≤ f x) → 0 ≤ (l.map f).sum
 | [], _ => by simp
 | a :: l, h => by
  have h1 := h a (List.mem_cons_self ..)
  have h2 := sum_nn l fun x hx => h x (List.mem_cons_of_mem _ hx)
  simp only [List.map_cons, List.sum_cons]
  omega
theorem bit_div {s v : Nat} : s.testBit v = decide (s / 2 ^ v % 2 = 1) := Nat.testBit_eq_decide_div_mod_eq
theorem bit_and (s v : Nat) (h : s < 256) : IntKind.i64.wrap ((BitVec.ofInt IntKind.i64.bits ((s >>> v : Nat) : Int) &&& BitVec.ofInt IntKind.i64.bits 1).toNat : Int) = if s.testBit v = true then 1 else 0 := by
 have hle : s >>> v ≤ s := by rw [Nat.shiftRight_eq_div_pow]; exact Nat.div_le_self ..
 have h1 := b_and (a := s >>> v) (b := 1) (by omega) (by omega)
 have h2 : BitVec.ofInt IntKind.i64.bits ((1 : Nat) : Int) = BitVec.ofInt IntKind.i64.bits 1 := rfl
 rw [h2] at h1
 rw [h1, Nat.and_one_is_mod, bit_div, Nat.shiftRight_eq_div_pow]
 by_cases e : s / 2 ^ v % 2 = 1
 ·simp [e]
 ·have : s / 2 ^ v % 2 = 0 := by omega
  simp [this]
theorem ex65 {cs : List Int} (N : Nat) (F : List Nat) (h : cs.length = 64) : (exD N cs F).ptd.getD 65 default = .l (F.map encN) := by
 simp only [exD, D.ptd_p, gs0]
 rw [List.getD_eq_getElem?_getD, List.getElem?_append_right (by simp [h])]
 simp [h]
theorem rowNn {l : List Nat} {i : Nat} (h : i < l.length) : (l.map encN).getD i [] = encN (l.getD i 0) := row_get 0 h
theorem rest_le {s v : Nat} : rest s v ≤ s := Nat.le_of_testBit fun u hu => by
 rw [rest_bit] at hu
 cases h : s.testBit u with
 | true => rfl
 | false => rw [h] at hu; exact nomatch hu
theorem sumB_nn {N : Nat} {cs : List Int} {F : List Nat} (hX : Exk N cs F) (v s : Nat) : 0 ≤ sumB (cellAt cs) v s := sum_nn _ fun _x _ => (hX.pos _).1
theorem okT_set {N : Nat} {T : List Int} (h : okT N T) (s : Nat) {x : Int} (h0 : 0 ≤ x) (h1 : x ≤ 1048576) : okT N (T.set s x) := by
 refine ⟨by rw [List.length_set, h.1], fun k => ?_⟩
 rw [List.getD_eq_getElem?_getD, List.getElem?_set]
 have := h.2 k
 rw [List.getD_eq_getElem?_getD] at this
 by_cases e : s = k
 ·subst e
  rw [if_pos rfl]
  split
  ·exact ⟨h0, h1⟩
  ·exact ⟨by simp, by simp⟩
 ·rw [if_neg e]; exact this
theorem pow8 {N : Nat} (h : N ≤ 8) : 2 ^ N ≤ 256 := Nat.pow_le_pow_right (by omega) h
theorem loopM70_1 : LoopMeets Tryd.prog F (R L70_1.key) L70_1 lb70_1 := by
 refine loop_meets (pre := R) mixed (sgAt_all (P := Tryd.prog) (pre := R) (Φ := F) (l := sg70) (fcm ⟨m80, (fun _ h => nomatch h)⟩)) (loops_n 1 lk70_1 fun k hk => match k, hk with | 0, _ => by rw [li70_1_0]; exact loop_this lf70_2 loopM70_2) L70_1 (fun ρ => ((ρ.getD 2 default).int - (ρ.getD 3 default).int).toNat) le70_1 fun ρ _ hp => ?_
 obtain ⟨N, cs, F, s, v, T, rfl, hX, hs, hv, hT⟩ : prB1 ρ := hp
 have hN := hX.n8
 have h256 := pow8 hN
 have hTl := hT.1
 by_cases hlt : v < N
 ·have hsh := b_shr (s := s) (v := v) (by omega)
  have hba := bit_and s v (by omega)
  have hmu : ((N : Int) - ((v + 1 : Nat) : Int)).toNat < ((N : Int) - (v : Int)).toNat := by omega
  have hskip : ¬ (s.testBit v = true ∧ dif (F.getD v 0) (rest s v) = 0) → RoundOk rv.F (R L70_1.key) (fun ρ => ((ρ.getD 2 default).int - (ρ.getD 3 default).int).toNat) L70_1 [exD N cs F, .i (s : Int), .i (N : Int), .i (v : Int), .l (T.map encI)] [.i (-1), .i ((v : Int) + 1), .l (T.map encI)] := fun hc => by
   refine round_next ⟨⟨N, cs, F, s, v + 1, T, rfl, hX, hs, by omega, hT⟩, hmu, ?_⟩
   show lpB1 [exD N cs F, .i (s : Int), .i (N : Int), .i ((v + 1 : Nat) : Int), .l (T.map encI)] = lpB1 [exD N cs F, .i (s : Int), .i (N : Int), .i (v : Int), .l (T.map encI)]
   simp only [lpB1, gz0, gs0, D.int_i, tn0, exC_ex N F hX.c64, exF_ex N F hX.c64, D.lst_l, map_dec dec_encI]
   rw [fold_next (i := v) hlt, dpV, if_neg hc]
  cases hb : s.testBit v with
  | false =>
   simp (disch := omega) only [rt70_1, VT.ok, Nd.holds, X.ds, X.d, Op2.ev, gz0, gs0, D.int_i, D.bool_b, tn0, fe0, implies_true, true_and, ↓reduceIte, dle_t, dlt_t, beq_t, w64', hsh, hba, hb, fe0]
   exact hskip (by rw [hb]; exact fun h => nomatch h.1)
  | true =>
   have hlen : ((exD N cs F).ptd.length == 66) = true := by simp [exD, hX.c64]
   have hsl := b_shl (v := v) (by omega)
   have hone : (1 <<< v : Nat) < 256 := by
    rw [Nat.one_shiftLeft]
    have : 2 ^ v < 2 ^ 8 := Nat.pow_lt_pow_right (by omega) (by omega)
    omega
   have hd1 : IntKind.i64.wrap ((BitVec.ofInt IntKind.i64.bits (s : Int) &&& ~~~BitVec.ofInt IntKind.i64.bits ((1 <<< v : Nat) : Int)).toNat : Int) = ((rest s v : Nat) : Int) := b_dif (by omega) (by omega)
   have hr := rest_le (s := s) (v := v)
   have hfv := hX.f8 v
   have hfl := hX.fN
   have hF := rowNn (l := F) (i := v) (by omega)
   have hd2 := b_dif (a := F.getD v 0) (b := rest s v) (by omega) (by omega)
   have hrl := rest_lt hb
   by_cases hc : dif (F.getD v 0) (rest s v) = 0
   ·have hT1 := rowI (l := T) (i := rest s v) (by omega)
    have hT2 := rowI (l := T) (i := s) (by omega)
    have t1 := hT.2 (rest s v)
    have t2 := hT.2 s
    have hsn := sumB_nn hX v (rest s v)
    have hpre : prB2 [exD N cs F, .i (v : Int), .i (T.getD (rest s v) 0), .i ((rest s v : Nat) : Int)] := ⟨N, cs, F, v, rest s v, _, rfl, hX, by omega, by omega, t1.1, by omega⟩
    have hd : lpB2 [exD N cs F, .i (v : Int), .i (T.getD (rest s v) 0), .i ((rest s v : Nat) : Int)] = [.i 0, .i (T.getD (rest s v) 0 + sumB (cellAt cs) v (rest s v)), .i 0] := by
     simp only [lpB2, gz0, gs0, D.int_i, tn0, exC_ex N F hX.c64]
    simp (disch := omega) only [rt70_1, VT.ok, Nd.holds, X.outs, X.ds, X.d, Op1.ev, Op2.ev, takeD_zero, takeD_cons, List.cons_append, List.nil_append, gz0, gs0, D.int_i, D.bool_b, D.lst_l, imin, tn0, lm0, fe0, implies_true, true_and, F17000, R17000, ↓reduceIte, dle_t, dlt_t, beq_t, beq_f, w64', hsh, hba, hb, hlen, ex65 N F hX.c64, lm0, hsl, hd1, hF, encN, hd2, hc, hT1, encI, hd, hT2, splI, setI, Bool.not_true, fe0]
    refine ⟨fun _ => hpre, ?_⟩
    refine round_next ⟨⟨N, cs, F, s, v + 1, T.set s (min (T.getD s 0) (T.getD (rest s v) 0 + sumB (cellAt cs) v (rest s v))), rfl, hX, hs, by omega, okT_set hT s (by omega) (by omega)⟩, hmu, ?_⟩
    show lpB1 [exD N cs F, .i (s : Int), .i (N : Int), .i ((v + 1 : Nat) : Int), .l ((T.set s (min (T.getD s 0) (T.getD (rest s v) 0 + sumB (cellAt cs) v (rest s v)))).map encI)] = lpB1 [exD N cs F, .i (s : Int), .i (N : Int), .i (v : Int), .l (T.map encI)]
    simp only [lpB1, gz0, gs0, D.int_i, tn0, exC_ex N F hX.c64, exF_ex N F hX.c64, D.lst_l, map_dec dec_encI]
    rw [fold_next (i := v) hlt (s := T), dpV, if_pos ⟨hb, hc⟩]
   ·simp (disch := omega) only [rt70_1, VT.ok, Nd.holds, X.ds, X.d, Op1.ev, Op2.ev, gz0, gs0, D.int_i, D.bool_b, D.lst_l, tn0, lm0, fe0, implies_true, true_and, ↓reduceIte, dle_t, dlt_t, beq_f, w64', hsh, hba, hb, hlen, ex65 N F hX.c64, lm0, hsl, hd1, hF, encN, hd2, Bool.not_false]
    exact hskip fun h => hc h.2
 ·have hj : v = N := by omega
  subst hj
  simp (disch := omega) only [rt70_1, VT.ok, X.ds, X.d, Op2.ev, gz0, gs0, D.int_i, D.bool_b, fe0, ↓reduceIte, dlt_f]
  refine round_exit (by omega) ?_
  show lpB1 [exD v cs F, .i (s : Int), .i (v : Int), .i (v : Int), .l (T.map encI)] = _
  simp only [lpB1, gz0, gs0, D.int_i, tn0, D.lst_l, map_dec dec_encI, fold_end]
theorem fold_okT {N : Nat} {cs : List Int} {F : List Nat} (hX : Exk N cs F) (s : Nat) : ∀ (k v : Nat) (T : List Int), v + k = N → okT N T → okT N (foldN (dpV (cellAt cs) (fun v => F.getD v 0) s) N v T)
 | 0, v, T, hk, h => by
  have : v = N := by omega
  subst this
  rw [fold_end]; exact h
 | k + 1, v, T, hk, h => by
  rw [fold_next (by omega)]
  refine fold_okT hX s k (v + 1) _ (by omega) ?_
  unfold dpV
  split
  ·have t1 := h.2 (rest s v)
   have t2 := h.2 s
   have := sumB_nn hX v (rest s v)
   exact okT_set h s (by omega) (by omega)
  ·exact h
theorem dpS_okT {N : Nat} {cs : List Int} {F : List Nat} (hX : Exk N cs F) (s : Nat) {T : List Int} (h : okT N T) : okT N (dpS N (cellAt cs) (fun v => F.getD v 0) s T) := fold_okT hX s N 0 _ (by omega) (okT_set h s (by omega) (by omega))
theorem loopM70_0 : LoopMeets Tryd.prog F (R L70_0.key) L70_0 lb70_0 := by
 refine loop_meets (pre := R) mixed (sgAt_all (P := Tryd.prog) (pre := R) (Φ := F) (l := sg70) (fcm ⟨m80, (fun _ h => nomatch h)⟩)) (loops_n 2 lk70_0 fun k hk => match k, hk with | 0, _ => by rw [li70_0_0]; exact loop_this lf70_1 loopM70_1 | 1, _ => by rw [li70_0_1]; exact loop_this lf70_2 loopM70_2) L70_0 (fun ρ => (((ρ.getD 2 default).lst.length : Int) - (ρ.getD 1 default).int).toNat) le70_0 fun ρ _ hp => ?_
 obtain ⟨N, cs, F, s, T, rfl, hX, hs1, hs, hT⟩ : prB0 ρ := hp
 have hN := hX.n8
 have h256 := pow8 hN
 have hTl := hT.1
 have hp0 : (exD N cs F).ptd.getD 0 default = .i (N : Int) := rfl
 by_cases hlt : s < 2 ^ N
 ·have hlen : ((exD N cs F).ptd.length == 66) = true := by simp [exD, hX.c64]
  have hT2 := rowI (l := T) (i := s) (by omega)
  have hok := okT_set hT s (x := 1048576) (by omega) (by omega)
  have hpre : prB1 [exD N cs F, .i (s : Int), .i (N : Int), .i 0, .l ((T.set s 1048576).map encI)] := ⟨N, cs, F, s, 0, _, rfl, hX, hlt, by omega, hok⟩
  have hd : lpB1 [exD N cs F, .i (s : Int), .i (N : Int), .i 0, .l ((T.set s 1048576).map encI)] = [.i 0, .i (N : Int), .l ((dpS N (cellAt cs) (fun v => F.getD v 0) s T).map encI)] := by
   simp only [lpB1, gz0, gs0, D.int_i, tn0, Int.toNat_zero, exC_ex N F hX.c64, exF_ex N F hX.c64, D.lst_l, map_dec dec_encI]
   rfl
  simp (disch := omega) only [rt70_0, VT.ok, Nd.holds, X.outs, X.ds, X.d, Op1.ev, Op2.ev, takeD_zero, takeD_cons, List.cons_append, List.nil_append, gz0, gs0, D.int_i, D.bool_b, D.lst_l, tn0, lm0, implies_true, true_and, F17001, R17001, ↓reduceIte, dle_t, dlt_t, w64', hlen, hT2, encI, splI, setI, hp0, hd, lm0]
  refine ⟨fun _ => hpre, ?_⟩
  refine round_next ⟨⟨N, cs, F, s + 1, dpS N (cellAt cs) (fun v => F.getD v 0) s T, rfl, hX, by omega, by omega, dpS_okT hX s hT⟩, ?_, ?_⟩
  ·show ((((dpS N (cellAt cs) (fun v => F.getD v 0) s T).map encI).length : Int) - ((s + 1 : Nat) : Int)).toNat < (((T.map encI).length : Int) - (s : Int)).toNat
   have := (dpS_okT hX s hT).1
   simp only [lm0]
   omega
  ·show lpB0 [exD N cs F, .i ((s + 1 : Nat) : Int), .l ((dpS N (cellAt cs) (fun v => F.getD v 0) s T).map encI)] = lpB0 [exD N cs F, .i (s : Int), .l (T.map encI)]
   simp only [lpB0, gz0, gs0, D.int_i, tn0, exN_ex, exC_ex N F hX.c64, exF_ex N F hX.c64, D.lst_l, map_dec dec_encI]
   rw [fold_next (i := s) hlt (s := T)]
 ·have hj : s = 2 ^ N := by omega
  subst hj
  simp (disch := omega) only [rt70_0, VT.ok, X.ds, X.d, Op1.ev, Op2.ev, gz0, gs0, D.int_i, D.bool_b, D.lst_l, lm0, fe0, ↓reduceIte, dlt_f, lm0]
  refine round_exit (by omega) ?_
  show lpB0 [exD N cs F, .i ((2 ^ N : Nat) : Int), .l (T.map encI)] = _
  simp only [lpB0, gz0, gs0, D.int_i, tn0, exN_ex, D.lst_l, map_dec dec_encI, fold_end]
theorem fold_okT0 {N : Nat} {cs : List Int} {F : List Nat} (hX : Exk N cs F) : ∀ (k s : Nat) (T : List Int), s + k = 2 ^ N → okT N T → okT N (foldN (dpS N (cellAt cs) (fun v => F.getD v 0)) (2 ^ N) s T)
 | 0, s, T, hk, h => by
  have : s = 2 ^ N := by omega
  subst this
  rw [fold_end]; exact h
 | k + 1, s, T, hk, h => by
  rw [fold_next (by omega)]
  exact fold_okT0 hX k (s + 1) _ (by omega) (dpS_okT hX s h)
theorem m70 : Meets Tryd.prog 70 S70 (R 70) (F 70) := by
 refine meets_of_vt (pre := R) (Φ := F) mixed (sgAt_all (P := Tryd.prog) (pre := R) (Φ := F) (l := sg70) (fcm ⟨m80, (fun _ h => nomatch h)⟩)) Tryd.func70 b70 n70 (loops_n 3 k70 fun k hk => match k, hk with | 0, _ => loop_this lf70_0 loopM70_0 | 1, _ => loop_this lf70_1 loopM70_1 | 2, _ => loop_this lf70_2 loopM70_2) e70 fun ds _ hp => ?_
 obtain ⟨N, cs, F, rfl, hX⟩ : lsPre ds := hp
 have hN := hX.n8
 have h256 := pow8 hN
 have h0 := Nat.two_pow_pos N
 have hp0 : (exD N cs F).ptd.getD 0 default = .i (N : Int) := rfl
 have hlen : ((exD N cs F).ptd.length == 66) = true := by simp [exD, hX.c64]
 have hsl := b_shl (v := N) (by omega)
 rw [Nat.one_shiftLeft] at hsl
 have hrep : List.replicate (2 ^ N) [D.i 0] = (List.replicate (2 ^ N) (0 : Int)).map encI := by rw [List.map_replicate]; rfl
 have hok : okT N (List.replicate (2 ^ N) (0 : Int)) := ⟨by simp, fun k => by
  by_cases hk : k < 2 ^ N
  ·simp [List.getD, hk]
  ·simp [List.getD, hk]⟩
 have hpre : prB0 [exD N cs F, .i 1, .l ((List.replicate (2 ^ N) (0 : Int)).map encI)] := ⟨N, cs, F, 1, _, rfl, hX, by omega, by omega, hok⟩
 have hd : lpB0 [exD N cs F, .i 1, .l ((List.replicate (2 ^ N) (0 : Int)).map encI)] = [.i 0, .i ((2 ^ N : Nat) : Int), .l ((dpT N (cellAt cs) fun v => F.getD v 0).map encI)] := by
  simp only [lpB0, gz0, gs0, D.int_i, exN_ex, exC_ex N F hX.c64, exF_ex N F hX.c64, D.lst_l, map_dec dec_encI]
  rfl
 have hokT : okT N (dpT N (cellAt cs) fun v => F.getD v 0) := fold_okT0 hX (2 ^ N - 1) 1 _ (by omega) hok
 have hTl := hokT.1
 have hout : lsD [exD N cs F] = [.i ((dpT N (cellAt cs) fun v => F.getD v 0).getD (2 ^ N - 1) 0)] := by
  simp only [lsD, gz0, exN_ex, exC_ex N F hX.c64, exF_ex N F hX.c64]
  rfl
 rw [show rv.F 70 = lsD from rfl, hout]
 generalize dpT N (cellAt cs) (fun v => F.getD v 0) = T at *
 have e1 : ((2 ^ N : Nat) : Int) - 1 = ((2 ^ N - 1 : Nat) : Int) := by omega
 have hT1 := rowI (l := T) (i := 2 ^ N - 1) (by omega)
 simp (disch := omega) only [vt70, VT.ok, Nd.holds, X.outs, X.ds, X.d, Op1.ev, Op2.ev, takeD_zero, takeD_cons, List.cons_append, List.nil_append, gz0, gs0, D.int_i, D.bool_b, D.lst_l, tn0, lm0, implies_true, true_and, and_true, F17002, R17002, dle_t, dlt_t, w64', hlen, hp0, hsl, hrep, hd, lm0, hTl, e1, hT1, encI]
 exact fun _ => hpre
end Go.Proofs.YtinaaabmmjpijaaDoor.rv
namespace Go.Proofs.YtinaaabmmjpijaaDoor.rv
set_option maxRecDepth 10000
open Go.RV Lo
theorem loopM69_0 : LoopMeets Tryd.prog F (R L69_0.key) L69_0 lb69_0 := by
 refine loop_meets (pre := R) mixed (sgAt_all (P := Tryd.prog) (pre := R) (Φ := F) (l := sg69) ((fun _ h => nomatch h))) (loops_n 0 lk69_0 fun k hk => by omega) L69_0 (fun ρ => ((ρ.getD 2 default).int - (ρ.getD 3 default).int).toNat) le69_0 fun ρ _ hp => ?_
 obtain ⟨N, A, i, x, rfl, hi, hA, hm⟩ : prDv ρ := hp
 by_cases hlt : i < A.length
 ·obtain ⟨a1, a2⟩ := arc_lt hA hlt
  have hr := rowA (l := A) hlt
  simp (disch := omega) only [rt69_0, VT.ok, Nd.holds, X.ds, X.d, Op1.ev, Op2.ev, gz0, gs0, D.int_i, D.bool_b, D.lst_l, imin, imax, tn0, lm0, fe0, implies_true, true_and, ↓reduceIte, dle_t, dle_f, dlt_t, dlt_f, w64', lm0, hr, encA, fe0]
  refine round_next ⟨⟨N, A, i + 1, x, rfl, by omega, hA, hm⟩, ?_, rfl⟩
  show ((A.length : Int) - ((i + 1 : Nat) : Int)).toNat < ((A.length : Int) - (i : Int)).toNat
  omega
 ·have hj : i = A.length := by omega
  subst hj
  simp (disch := omega) only [rt69_0, VT.ok, X.ds, X.d, Op2.ev, gz0, gs0, D.int_i, D.bool_b, fe0, ↓reduceIte, dlt_f]
  exact round_exit (by omega) rfl
theorem m69 : Meets Tryd.prog 69 S69 (R 69) (F 69) := by
 refine meets_of_vt (pre := R) (Φ := F) mixed (sgAt_all (P := Tryd.prog) (pre := R) (Φ := F) (l := sg69) ((fun _ h => nomatch h))) Tryd.func69 b69 n69 (loops_n 1 k69 fun k hk => match k, hk with | 0, _ => loop_this lf69_0 loopM69_0) e69 fun ds _ hp => ?_
 obtain ⟨N, A, rfl, hN, hA, hm⟩ : dgPre ds := hp
 have hpre : prDv [.b false, .l (A.map encA), .i (A.length : Int), .i 0, .i (N : Int), .l (A.map encA)] := ⟨N, A, 0, _, rfl, Nat.zero_le _, hA, hm⟩
 have hc : lpDv [.b false, .l (A.map encA), .i (A.length : Int), .i 0, .i (N : Int), .l (A.map encA)] = [.i 1, .b false, .i (A.length : Int)] := rfl
 have hout : F 69 [.i (N : Int), .l (A.map encA)] = [.b true] := rfl
 rw [hout]
 simp (disch := omega) only [vt69, VT.ok, Nd.holds, X.outs, X.ds, X.d, Op1.ev, Op2.ev, takeD_zero, takeD_cons, List.cons_append, List.nil_append, gz0, gs0, D.int_i, D.bool_b, D.lst_l, lm0, fe0, and_true, F16900, R16900, ↓reduceIte, dlt_f, beq_f, lm0, hc]
 exact fun _ => hpre
theorem cntA_take {A : List (Nat × Nat)} {i : Nat} (h : i < A.length) (v u : Nat) : cntA (A.take (i + 1)) v u = cntA (A.take i) v u + if (arc A i).1 = v ∧ (arc A i).2 = u ∧ (arc A i).1 ≠ (arc A i).2 then 1 else 0 := by
 have ha : A[i] = arc A i := by simp [arc, List.getD, h]
 rw [List.take_succ_eq_append_getElem h, ha]
 simp only [cntA, List.countP_append, List.countP_singleton, Int.natCast_add]
 congr 1
 by_cases h1 : (arc A i).1 = v <;> by_cases h2 : (arc A i).2 = u <;> by_cases h3 : (arc A i).1 = (arc A i).2 <;> simp [h1, h2, h3] <;> split <;> rfl
theorem cellsA_len (A : List (Nat × Nat)) : (cellsA A).length = 64 := by simp [cellsA]
theorem cellsA_get (A : List (Nat × Nat)) {k : Nat} (h : k < 64) : (cellsA A).getD k 0 = cntA A (k / 8) (k % 8) := by simp [cellsA, List.getD, h]
theorem cntA_bd (A : List (Nat × Nat)) (v u : Nat) : 0 ≤ cntA A v u ∧ cntA A v u ≤ A.length := by
 have := List.countP_le_length (l := A) (p := fun a : Nat × Nat => decide (a.1 = v) && decide (a.2 = u) && decide (a.1 ≠ a.2))
 simp only [cntA]
 omega
theorem gets64 {l : List D} (h : l.length = 64) : [l.getD 0 default, l.getD 1 default, l.getD 2 default, l.getD 3 default, l.getD 4 default, l.getD 5 default, l.getD 6 default, l.getD 7 default, l.getD 8 default, l.getD 9 default, l.getD 10 default, l.getD 11 default, l.getD 12 default, l.getD 13 default, l.getD 14 default, l.getD 15 default, l.getD 16 default, l.getD 17 default, l.getD 18 default, l.getD 19 default, l.getD 20 default, l.getD 21 default, l.getD 22 default, l.getD 23 default, l.getD 24 default, l.getD 25 default, l.getD 26 default, l.getD 27 default, l.getD 28 default, l.getD 29 default, l.getD 30 default, l.getD 31 default, l.getD 32 default, l.getD 33 default, l.getD 34 default, l.getD 35 default, l.getD 36 default, l.getD 37 default, l.getD 38 default, l.getD 39 default, l.getD 40 default, l.getD 41 default, l.getD 42 default, l.getD 43 default, l.getD 44 default, l.getD 45 default, l.getD 46 default, l.getD 47 default, l.getD 48 default, l.getD 49 default, l.getD 50 default, l.getD 51 default, l.getD 52 default, l.getD 53 default, l.getD 54 default, l.getD 55 default, l.getD 56 default, l.getD 57 default, l.getD 58 default, l.getD 59 default, l.getD 60 default, l.getD 61 default, l.getD 62 default, l.getD 63 default] = l := by
 show (List.range 64).map (fun k => l.getD k default) = l
 refine List.ext_getElem (by simp [h]) fun i h1 h2 => ?_
 simp [List.getD, h2]
theorem map_get (A : List (Nat × Nat)) {k : Nat} (h : k < 64) : ((cellsA A).map D.i).getD k default = .i (cntA A (k / 8) (k % 8)) := by
 simp [cellsA, List.getD, h]
theorem ext_getD {l m : List D} (h : l.length = m.length) (hg : ∀ i, i < l.length → l.getD i default = m.getD i default) : l = m := by
 refine List.ext_getElem h fun i h1 h2 => ?_
 have := hg i h1
 simpa [List.getD, h1, h2] using this
theorem posC : ∀ k, k < 64 → posIn (k + 5) L52_0.wv = some (k + 1) := by decide +kernel
theorem setV0 {a b c x y d : D} {l m : List D} (hl : l.length = 64) (hm : m.length = 64) : setVars (a :: b :: c :: x :: y :: l) L52_0.wv (d :: m) = a :: b :: d :: x :: y :: m := by
 refine ext_getD (by rw [setVars_length]; simp [hl, hm]) fun i hi => ?_
 rw [setVars_length] at hi
 rw [setVars_get _ _ _ hi]
 match i, hi with
 | 0, _ => rfl
 | 1, _ => rfl
 | 2, _ => rfl
 | 3, _ => rfl
 | 4, _ => rfl
 | k + 5, hi =>
  rw [posC k (by simp [hl] at hi; omega)]
  simp only [gs0]
theorem posG : ∀ k, k < 64 → posIn (k + 6) L52_1.wv = none := by decide +kernel
theorem posG' : posIn 70 L52_1.wv = some 2 := by decide
theorem setV1 {a b c i0 f n i1 f1 o o1 : D} {l : List D} (hl : l.length = 64) : setVars (a :: b :: c :: i0 :: f :: n :: (l ++ [o])) L52_1.wv [i1, f1, o1] = a :: b :: c :: i1 :: f1 :: n :: (l ++ [o1]) := by
 refine ext_getD (by rw [setVars_length]; simp) fun i hi => ?_
 rw [setVars_length] at hi
 rw [setVars_get _ _ _ hi]
 match i, hi with
 | 0, _ => rfl
 | 1, _ => rfl
 | 2, _ => rfl
 | 3, _ => rfl
 | 4, _ => rfl
 | 5, _ => rfl
 | k + 6, hi =>
  by_cases hk : k < 64
  ·rw [posG k hk]
   simp only [gs0]
   rw [List.getD_eq_getElem?_getD, List.getD_eq_getElem?_getD, List.getElem?_append_left (by omega), List.getElem?_append_left (by omega)]
  ·have : k = 64 := by simp [hl] at hi; omega
   subst this
   rw [posG']
   simp only [gs0, gz0]
   rw [List.getD_eq_getElem?_getD, List.getElem?_append_right (by omega)]
   simp [hl]
theorem loopM52_0 : LoopMeets Tryd.prog F (R L52_0.key) L52_0 lb52_0 := by
 refine loop_meets (pre := R) mixed (sgAt_all (P := Tryd.prog) (pre := R) (Φ := F) (l := sg52) (fcm ⟨m69, fcm ⟨m70, (fun _ h => nomatch h)⟩⟩)) (loops_n 0 lk52_0 fun k hk => by omega) L52_0 (fun ρ => ((ρ.getD 1 default).int - (ρ.getD 2 default).int).toNat) le52_0 fun ρ _ hp => ?_
 obtain ⟨N, A, i, x, y, rfl, hi, hN, hA, hm⟩ : prCn ρ := hp
 have hl : ∀ B, ((cellsA B).map D.i).length = 64 := fun B => by rw [lm0, cellsA_len]
 by_cases hlt : i < A.length
 ·obtain ⟨a1, a2⟩ := arc_lt hA hlt
  have hr := rowA (l := A) hlt
  have hnx : RoundOk F (R L52_0.key) (fun ρ => ((ρ.getD 1 default).int - (ρ.getD 2 default).int).toNat) L52_0 (.l (A.map encA) :: .i (A.length : Int) :: .i (i : Int) :: x :: y :: (cellsA (A.take i)).map D.i) (.i (-1) :: .i ((i : Int) + 1) :: (cellsA (A.take (i + 1))).map D.i) := by
   refine round_next ?_
   rw [setV0 (hl _) (hl _)]
   refine ⟨⟨N, A, i + 1, x, y, rfl, by omega, hN, hA, hm⟩, ?_, rfl⟩
   show ((A.length : Int) - ((i + 1 : Nat) : Int)).toNat < ((A.length : Int) - (i : Int)).toNat
   omega
  by_cases e : (arc A i).1 = (arc A i).2
  ·simp (disch := omega) only [rt52_0, VT.ok, Nd.holds, X.ds, X.d, Op1.ev, Op2.ev, gz0, gs0, D.int_i, D.bool_b, D.lst_l, tn0, lm0, fe0, implies_true, true_and, ↓reduceIte, dle_t, dlt_t, beq_t, w64', lm0, hr, encA, Bool.not_true, fe0, gets64 (hl _)]
   have : cellsA (A.take (i + 1)) = cellsA (A.take i) := by
    unfold cellsA
    refine List.map_congr_left fun k _ => ?_
    rw [cntA_take hlt, if_neg (fun h => h.2.2 e)]
    omega
   rw [this] at hnx
   exact hnx
  ·have hab : (((arc A i).1 : Int) == ((arc A i).2 : Int)) = false := beq_f (by omega)
   simp (disch := omega) only [rt52_0, VT.ok, Nd.holds, X.ds, X.d, Op1.ev, Op2.ev, gz0, gs0, D.int_i, D.bool_b, D.lst_l, tn0, lm0, implies_true, true_and, ↓reduceIte, dle_t, dlt_t, w64', lm0, hr, encA, hab, Bool.not_false, gets64 (hl _)]
   have hm : (cellsA (A.take (i + 1))).map D.i = (List.range 64).map fun (k : Nat) => if (((arc A i).1 : Int) * 8 + ((arc A i).2 : Int) == (k : Int)) = true then D.i (IntKind.i64.wrap ((((cellsA (A.take i)).map D.i).getD (((arc A i).1 : Int) * 8 + ((arc A i).2 : Int)).toNat default).int + 1)) else ((cellsA (A.take i)).map D.i).getD k default := by
    refine ext_getD (by rw [hl]; simp) fun k hk => ?_
    rw [hl] at hk
    rw [map_get _ hk, cntA_take hlt]
    have hg : ∀ g : Nat → D, ((List.range 64).map g).getD k default = g k := fun g => by simp [List.getD, hk]
    rw [hg]
    by_cases h : (arc A i).1 = k / 8 ∧ (arc A i).2 = k % 8 ∧ (arc A i).1 ≠ (arc A i).2
    ·have hi' : (((arc A i).1 : Int) * 8 + ((arc A i).2 : Int)) = (k : Int) := by omega
     have hb := cntA_bd (A.take i) (k / 8) (k % 8)
     have hl' : (A.take i).length ≤ A.length := by simp; omega
     rw [if_pos h, hi', if_pos (by simp), tn0, map_get _ hk, D.int_i, w64 (by omega)]
    ·rw [if_neg h, if_neg (by rw [beq_iff_eq]; omega), map_get _ hk, Int.add_zero]
   rw [hm] at hnx
   exact hnx
 ·have hj : i = A.length := by omega
  subst hj
  simp (disch := omega) only [rt52_0, VT.ok, X.ds, X.d, Op2.ev, gz0, gs0, D.int_i, D.bool_b, fe0, ↓reduceIte, dlt_f, gets64 (hl _)]
  refine round_exit (by omega) ?_
  show lpCn _ = _
  simp only [lpCn, gz0, gs0, D.lst_l, map_dec decA_enc, List.take_length]
end Go.Proofs.YtinaaabmmjpijaaDoor.rv
namespace Go.Proofs.YtinaaabmmjpijaaDoor.rv
set_option maxRecDepth 10000
open Go.RV Lo
theorem app_get {l : List D} {o : D} {k : Nat} (h : k < l.length) : (l ++ [o]).getD k default = l.getD k default := by
 rw [List.getD_eq_getElem?_getD, List.getD_eq_getElem?_getD, List.getElem?_append_left h]
theorem app_last {l : List D} {o : D} (h : l.length = 64) : (l ++ [o]).getD 64 default = o := by
 rw [List.getD_eq_getElem?_getD, List.getElem?_append_right (by omega)]
 simp [h]
theorem app2_last {l : List D} {o q : D} (h : l.length = 64) : (l ++ [o] ++ [q]).getD 65 default = q := by
 rw [List.getD_eq_getElem?_getD, List.getElem?_append_right (by simp [h])]
 simp [h]
theorem app2_mid {l : List D} {o q : D} (h : l.length = 64) : (l ++ [o] ++ [q]).getD 64 default = o := by
 rw [app_get (by simp [h]), app_last h]
theorem pk64 {l : List D} {x o y : D} (h : l.length = 64) : [x, (l ++ [o]).getD 0 default, (l ++ [o]).getD 1 default, (l ++ [o]).getD 2 default, (l ++ [o]).getD 3 default, (l ++ [o]).getD 4 default, (l ++ [o]).getD 5 default, (l ++ [o]).getD 6 default, (l ++ [o]).getD 7 default, (l ++ [o]).getD 8 default, (l ++ [o]).getD 9 default, (l ++ [o]).getD 10 default, (l ++ [o]).getD 11 default, (l ++ [o]).getD 12 default, (l ++ [o]).getD 13 default, (l ++ [o]).getD 14 default, (l ++ [o]).getD 15 default, (l ++ [o]).getD 16 default, (l ++ [o]).getD 17 default, (l ++ [o]).getD 18 default, (l ++ [o]).getD 19 default, (l ++ [o]).getD 20 default, (l ++ [o]).getD 21 default, (l ++ [o]).getD 22 default, (l ++ [o]).getD 23 default, (l ++ [o]).getD 24 default, (l ++ [o]).getD 25 default, (l ++ [o]).getD 26 default, (l ++ [o]).getD 27 default, (l ++ [o]).getD 28 default, (l ++ [o]).getD 29 default, (l ++ [o]).getD 30 default, (l ++ [o]).getD 31 default, (l ++ [o]).getD 32 default, (l ++ [o]).getD 33 default, (l ++ [o]).getD 34 default, (l ++ [o]).getD 35 default, (l ++ [o]).getD 36 default, (l ++ [o]).getD 37 default, (l ++ [o]).getD 38 default, (l ++ [o]).getD 39 default, (l ++ [o]).getD 40 default, (l ++ [o]).getD 41 default, (l ++ [o]).getD 42 default, (l ++ [o]).getD 43 default, (l ++ [o]).getD 44 default, (l ++ [o]).getD 45 default, (l ++ [o]).getD 46 default, (l ++ [o]).getD 47 default, (l ++ [o]).getD 48 default, (l ++ [o]).getD 49 default, (l ++ [o]).getD 50 default, (l ++ [o]).getD 51 default, (l ++ [o]).getD 52 default, (l ++ [o]).getD 53 default, (l ++ [o]).getD 54 default, (l ++ [o]).getD 55 default, (l ++ [o]).getD 56 default, (l ++ [o]).getD 57 default, (l ++ [o]).getD 58 default, (l ++ [o]).getD 59 default, (l ++ [o]).getD 60 default, (l ++ [o]).getD 61 default, (l ++ [o]).getD 62 default, (l ++ [o]).getD 63 default, y] = x :: (l ++ [y]) := by
 show x :: ((List.range 64).map (fun k => (l ++ [o]).getD k default) ++ [y]) = x :: (l ++ [y])
 congr 2
 refine List.ext_getElem (by simp [h]) fun i h1 h2 => ?_
 have := app_get (o := o) h2
 simp only [List.getElem_map, List.getElem_range]
 rw [this]
 simp [List.getD, h2]
theorem setN {l : List Nat} {i x : Nat} : (l.map encN).set i [.i (x : Int)] = (l.set i x).map encN := by rw [List.map_set]; rfl
theorem catN {l : List Nat} {x : Nat} : l.map encN ++ [[D.i (x : Int)]] = (l ++ [x]).map encN := cat_map encN l x
theorem setF_len (F : List Nat) (a b : Nat) : (setF F a b).length = F.length := by simp [setF]
theorem shl8 {b : Nat} (h : b < 8) : (1 <<< b : Nat) < 256 := by
 rw [Nat.one_shiftLeft]
 have : 2 ^ b < 2 ^ 8 := Nat.pow_lt_pow_right (by omega) h
 omega
theorem setF_lt {F : List Nat} (h : ∀ v, F.getD v 0 < 256) (a : Nat) {b : Nat} (hb : b < 8) (v : Nat) : (setF F a b).getD v 0 < 256 := by
 unfold setF
 rw [List.getD_eq_getElem?_getD, List.getElem?_set]
 by_cases e : a = v
 ·rw [if_pos e]
  split
  ·exact Nat.or_lt_two_pow (n := 8) (h a) (shl8 hb)
  ·simp
 ·rw [if_neg e]
  have := h v
  rwa [List.getD_eq_getElem?_getD] at this
theorem exk_of {N : Nat} {A : List (Nat × Nat)} {F : List Nat} (hN : N ≤ 8) (hm : A.length ≤ 100000) (hF : F.length = N) (h8 : ∀ v, F.getD v 0 < 256) : Exk N (cellsA A) F := by
 refine ⟨hN, cellsA_len A, fun k => ?_, hF, h8⟩
 by_cases hk : k < 64
 ·rw [cellsA_get A hk]
  have := cntA_bd A (k / 8) (k % 8)
  omega
 ·have : (cellsA A).getD k 0 = 0 := by simp [List.getD, cellsA_len, hk]
  omega
theorem ls_eq {N : Nat} {A : List (Nat × Nat)} {F : List Nat} (hN : N ≤ 8) : lsD [exD N (cellsA A) F] = [.i (leastV N (cntA A) fun v => F.getD v 0)] := by
 simp only [lsD, gz0, exN_ex, exC_ex N F (cellsA_len A), exF_ex N F (cellsA_len A)]
 rw [least_congr _ hN fun v u hv hu => cellAt_A hv hu]
theorem loopM52_1 : LoopMeets Tryd.prog F (R L52_1.key) L52_1 lb52_1 := by
 refine loop_meets (pre := R) mixed (sgAt_all (P := Tryd.prog) (pre := R) (Φ := F) (l := sg52) (fcm ⟨m69, fcm ⟨m70, (fun _ h => nomatch h)⟩⟩)) (loops_n 0 lk52_1 fun k hk => by omega) L52_1 (fun ρ => ((ρ.getD 2 default).int - (ρ.getD 3 default).int).toNat) le52_1 fun ρ _ hp => ?_
 obtain ⟨N, A, i, F, out, rfl, hi, hN, hA, hm, hF, h8, ho⟩ : prGr ρ := hp
 have hl : ((cellsA A).map D.i).length = 64 := by rw [lm0, cellsA_len]
 have hmu : ((A.length : Int) - ((i + 1 : Nat) : Int)).toNat < ((A.length : Int) - (i : Int)).toNat ∨ A.length ≤ i := by omega
 have hcl : ∀ (j : Nat) (F out : List Nat), lpGr (.i (sizeD N A) :: .l (A.map encA) :: .i (A.length : Int) :: .i (j : Int) :: .l (F.map encN) :: .i (N : Int) :: ((cellsA A).map D.i ++ [.l (out.map encN)])) =
   [.i 0, .i (A.length : Int), .l ((foldN (turnD N A (sizeD N A)) A.length j (F, out)).1.map encN), .l ((foldN (turnD N A (sizeD N A)) A.length j (F, out)).2.map encN)] := fun j F out => by
  simp only [lpGr, gz0, gs0, D.int_i, tn0, D.lst_l, map_dec decA_enc, map_dec decN_enc, app_last hl]
 by_cases hlt : i < A.length
 ·obtain ⟨a1, a2⟩ := arc_lt hA hlt
  have hr := rowA (l := A) hlt
  have hnx : ∀ F' out', turnD N A (sizeD N A) i (F, out) = (F', out') → F'.length = N → (∀ v, F'.getD v 0 < 256) → out'.length ≤ i + 1 → RoundOk rv.F (R L52_1.key) (fun ρ => ((ρ.getD 2 default).int - (ρ.getD 3 default).int).toNat) L52_1 (.i (sizeD N A) :: .l (A.map encA) :: .i (A.length : Int) :: .i (i : Int) :: .l (F.map encN) :: .i (N : Int) :: ((cellsA A).map D.i ++ [.l (out.map encN)])) [.i (-1), .i ((i : Int) + 1), .l (F'.map encN), .l (out'.map encN)] := fun F' out' ht h1 h2 h3 => by
   refine round_next ?_
   rw [setV1 hl]
   refine ⟨⟨N, A, i + 1, F', out', rfl, by omega, hN, hA, hm, h1, h2, h3⟩, ?_, ?_⟩
   ·show ((A.length : Int) - ((i + 1 : Nat) : Int)).toNat < ((A.length : Int) - (i : Int)).toNat
    omega
   ·show lpGr (.i (sizeD N A) :: .l (A.map encA) :: .i (A.length : Int) :: .i ((i + 1 : Nat) : Int) :: .l (F'.map encN) :: .i (N : Int) :: ((cellsA A).map D.i ++ [.l (out'.map encN)])) = lpGr (.i (sizeD N A) :: .l (A.map encA) :: .i (A.length : Int) :: .i (i : Int) :: .l (F.map encN) :: .i (N : Int) :: ((cellsA A).map D.i ++ [.l (out.map encN)]))
    rw [hcl, hcl, fold_next (i := i) hlt, ht]
  by_cases e : (arc A i).1 = (arc A i).2
  ·have ht : turnD N A (sizeD N A) i (F, out) = (F, out) := by rw [turnD, if_pos e]
   simp (disch := omega) only [rt52_1, VT.ok, Nd.holds, X.ds, X.d, Op1.ev, Op2.ev, gz0, gs0, D.int_i, D.bool_b, D.lst_l, tn0, lm0, implies_true, true_and, ↓reduceIte, dle_t, dlt_t, beq_t, w64', lm0, hr, encA, app_last hl]
   exact hnx F out ht hF h8 (by omega)
  ·have hw1 := b_shl (v := (arc A i).2) (by omega)
   have hw2 := b_shl (v := (arc A i).1) (by omega)
   have f1 := rowNn (l := F) (i := (arc A i).1) (by omega)
   have f2 := rowNn (l := F) (i := (arc A i).2) (by omega)
   have o1 := b_or (h8 (arc A i).1) (shl8 (b := (arc A i).2) (by omega))
   have o2 := b_or (h8 (arc A i).2) (shl8 (b := (arc A i).1) (by omega))
   have s1 : F.set (arc A i).1 (F.getD (arc A i).1 0 ||| 1 <<< (arc A i).2) = setF F (arc A i).1 (arc A i).2 := rfl
   have s2 : F.set (arc A i).2 (F.getD (arc A i).2 0 ||| 1 <<< (arc A i).1) = setF F (arc A i).2 (arc A i).1 := rfl
   have hX := exk_of (A := A) (F := setF F (arc A i).1 (arc A i).2) hN hm (by rw [setF_len, hF]) (setF_lt h8 _ (by omega))
   have hex : D.p (.i (N : Int) :: ((cellsA A).map D.i ++ [.l ((setF F (arc A i).1 (arc A i).2).map encN)])) = exD N (cellsA A) (setF F (arc A i).1 (arc A i).2) := rfl
   have hpre : lsPre [exD N (cellsA A) (setF F (arc A i).1 (arc A i).2)] := ⟨N, _, _, rfl, hX⟩
   simp (disch := omega) only [rt52_1, VT.ok, Nd.holds, X.outs, X.ds, X.d, Op1.ev, Op2.ev, takeD_zero, takeD_cons, List.cons_append, gz0, gs0, D.int_i, D.bool_b, D.lst_l, tn0, lm0, fe0, implies_true, true_and, F70, R70, ↓reduceIte, dle_t, dlt_t, beq_t, beq_f, w64', lm0, hr, encA, pk64 hl, hw1, hw2, f1, f2, encN, o1, o2, splI, setN, s1, s2, hex, ls_eq hN, List.length_replicate, app2_last hl, app2_mid hl, catN]
   refine ⟨fun _ => hpre, ?_⟩
   by_cases hc : leastV N (cntA A) (fun v => (setF F (arc A i).1 (arc A i).2).getD v 0) = sizeD N A
   ·rw [if_pos (by simpa using hc)]
    refine ⟨fun _ => decide_eq_true ?_, hnx _ _ (by rw [turnD, if_neg e, if_pos hc]) (by rw [setF_len, hF]) (setF_lt h8 _ (by omega)) (by simp; omega)⟩
    simp only [List.length_append, List.length_singleton]
    omega
   ·rw [if_neg (by simpa using hc)]
    exact hnx _ _ (by rw [turnD, if_neg e, if_neg hc]) (by rw [setF_len, hF]) (setF_lt h8 _ (by omega)) (by omega)
 ·have hj : i = A.length := by omega
  subst hj
  simp (disch := omega) only [rt52_1, VT.ok, X.ds, X.d, Op2.ev, gz0, gs0, D.int_i, D.bool_b, fe0, ↓reduceIte, dlt_f, app_last hl]
  refine round_exit (by omega) ?_
  rw [show rv.F L52_1.key = lpGr from rfl, hcl, fold_end]
end Go.Proofs.YtinaaabmmjpijaaDoor.rv
namespace Go.Proofs.YtinaaabmmjpijaaDoor.rv
set_option maxRecDepth 10000
open Go.RV Lo
theorem gt64 {l t : List D} (h : l.length = 64) : l.getD 0 default :: l.getD 1 default :: l.getD 2 default :: l.getD 3 default :: l.getD 4 default :: l.getD 5 default :: l.getD 6 default :: l.getD 7 default :: l.getD 8 default :: l.getD 9 default :: l.getD 10 default :: l.getD 11 default :: l.getD 12 default :: l.getD 13 default :: l.getD 14 default :: l.getD 15 default :: l.getD 16 default :: l.getD 17 default :: l.getD 18 default :: l.getD 19 default :: l.getD 20 default :: l.getD 21 default :: l.getD 22 default :: l.getD 23 default :: l.getD 24 default :: l.getD 25 default :: l.getD 26 default :: l.getD 27 default :: l.getD 28 default :: l.getD 29 default :: l.getD 30 default :: l.getD 31 default :: l.getD 32 default :: l.getD 33 default :: l.getD 34 default :: l.getD 35 default :: l.getD 36 default :: l.getD 37 default :: l.getD 38 default :: l.getD 39 default :: l.getD 40 default :: l.getD 41 default :: l.getD 42 default :: l.getD 43 default :: l.getD 44 default :: l.getD 45 default :: l.getD 46 default :: l.getD 47 default :: l.getD 48 default :: l.getD 49 default :: l.getD 50 default :: l.getD 51 default :: l.getD 52 default :: l.getD 53 default :: l.getD 54 default :: l.getD 55 default :: l.getD 56 default :: l.getD 57 default :: l.getD 58 default :: l.getD 59 default :: l.getD 60 default :: l.getD 61 default :: l.getD 62 default :: l.getD 63 default :: t = l ++ t := by
 show (List.range 64).map (fun k => l.getD k default) ++ t = l ++ t
 congr 1
 refine List.ext_getElem (by simp [h]) fun i h1 h2 => ?_
 simp [List.getD, h2]
theorem ga64 {l t : List D} {o : D} (h : l.length = 64) : (l ++ [o]).getD 0 default :: (l ++ [o]).getD 1 default :: (l ++ [o]).getD 2 default :: (l ++ [o]).getD 3 default :: (l ++ [o]).getD 4 default :: (l ++ [o]).getD 5 default :: (l ++ [o]).getD 6 default :: (l ++ [o]).getD 7 default :: (l ++ [o]).getD 8 default :: (l ++ [o]).getD 9 default :: (l ++ [o]).getD 10 default :: (l ++ [o]).getD 11 default :: (l ++ [o]).getD 12 default :: (l ++ [o]).getD 13 default :: (l ++ [o]).getD 14 default :: (l ++ [o]).getD 15 default :: (l ++ [o]).getD 16 default :: (l ++ [o]).getD 17 default :: (l ++ [o]).getD 18 default :: (l ++ [o]).getD 19 default :: (l ++ [o]).getD 20 default :: (l ++ [o]).getD 21 default :: (l ++ [o]).getD 22 default :: (l ++ [o]).getD 23 default :: (l ++ [o]).getD 24 default :: (l ++ [o]).getD 25 default :: (l ++ [o]).getD 26 default :: (l ++ [o]).getD 27 default :: (l ++ [o]).getD 28 default :: (l ++ [o]).getD 29 default :: (l ++ [o]).getD 30 default :: (l ++ [o]).getD 31 default :: (l ++ [o]).getD 32 default :: (l ++ [o]).getD 33 default :: (l ++ [o]).getD 34 default :: (l ++ [o]).getD 35 default :: (l ++ [o]).getD 36 default :: (l ++ [o]).getD 37 default :: (l ++ [o]).getD 38 default :: (l ++ [o]).getD 39 default :: (l ++ [o]).getD 40 default :: (l ++ [o]).getD 41 default :: (l ++ [o]).getD 42 default :: (l ++ [o]).getD 43 default :: (l ++ [o]).getD 44 default :: (l ++ [o]).getD 45 default :: (l ++ [o]).getD 46 default :: (l ++ [o]).getD 47 default :: (l ++ [o]).getD 48 default :: (l ++ [o]).getD 49 default :: (l ++ [o]).getD 50 default :: (l ++ [o]).getD 51 default :: (l ++ [o]).getD 52 default :: (l ++ [o]).getD 53 default :: (l ++ [o]).getD 54 default :: (l ++ [o]).getD 55 default :: (l ++ [o]).getD 56 default :: (l ++ [o]).getD 57 default :: (l ++ [o]).getD 58 default :: (l ++ [o]).getD 59 default :: (l ++ [o]).getD 60 default :: (l ++ [o]).getD 61 default :: (l ++ [o]).getD 62 default :: (l ++ [o]).getD 63 default :: t = l ++ t := by
 show (List.range 64).map (fun k => (l ++ [o]).getD k default) ++ t = l ++ t
 congr 1
 refine List.ext_getElem (by simp [h]) fun i h1 h2 => ?_
 have := app_get (o := o) h2
 simp only [List.getElem_map, List.getElem_range]
 rw [this]
 simp [List.getD, h2]
theorem cells_nil : (cellsA []).map D.i = [D.i 0, D.i 0, D.i 0, D.i 0, D.i 0, D.i 0, D.i 0, D.i 0, D.i 0, D.i 0, D.i 0, D.i 0, D.i 0, D.i 0, D.i 0, D.i 0, D.i 0, D.i 0, D.i 0, D.i 0, D.i 0, D.i 0, D.i 0, D.i 0, D.i 0, D.i 0, D.i 0, D.i 0, D.i 0, D.i 0, D.i 0, D.i 0, D.i 0, D.i 0, D.i 0, D.i 0, D.i 0, D.i 0, D.i 0, D.i 0, D.i 0, D.i 0, D.i 0, D.i 0, D.i 0, D.i 0, D.i 0, D.i 0, D.i 0, D.i 0, D.i 0, D.i 0, D.i 0, D.i 0, D.i 0, D.i 0, D.i 0, D.i 0, D.i 0, D.i 0, D.i 0, D.i 0, D.i 0, D.i 0] := rfl
theorem takeD_len : ∀ (l : List D), takeD l.length l = l
 | [] => rfl
 | a :: l => by
  have := takeD_len l
  simp only [List.length_cons, takeD_cons, this]
theorem m52 : Meets Tryd.prog 52 S52 (R 52) (F 52) := by
 refine meets_of_vt (pre := R) (Φ := F) mixed (sgAt_all (P := Tryd.prog) (pre := R) (Φ := F) (l := sg52) (fcm ⟨m69, fcm ⟨m70, (fun _ h => nomatch h)⟩⟩)) Tryd.func52 b52 n52 (loops_n 2 k52 fun k hk => match k, hk with | 0, _ => loop_this lf52_0 loopM52_0 | 1, _ => loop_this lf52_1 loopM52_1) e52 fun ds _ hp => ?_
 have hp' := hp
 obtain ⟨N, A, rfl, hN, hA, hm⟩ : dgPre ds := hp
 have hl : ((cellsA A).map D.i).length = 64 := by rw [lm0, cellsA_len]
 have hrep : ∀ n : Nat, List.replicate n [D.i 0] = (List.replicate n (0 : Nat)).map encN := fun n => by rw [List.map_replicate]; rfl
 have hv : dvD [.i (N : Int), .l (A.map encA)] = [.b true] := rfl
 have hz : ∀ v, (List.replicate N (0 : Nat)).getD v 0 = 0 := fun v => by
  by_cases hk : v < N <;> simp [List.getD, hk]
 have hpre1 : prCn (.l (A.map encA) :: .i (A.length : Int) :: .i 0 :: .l ((List.replicate N (0 : Nat)).map encN) :: .i (N : Int) :: (cellsA []).map D.i) := ⟨N, A, 0, _, _, rfl, Nat.zero_le _, hN, hA, by omega⟩
 rw [cells_nil] at hpre1
 have hd1 : ∀ t, lpCn (.l (A.map encA) :: .i (A.length : Int) :: t) = .i 0 :: .i (A.length : Int) :: (cellsA A).map D.i := fun t => by
  simp only [lpCn, gz0, gs0, D.lst_l, map_dec decA_enc]
 have htk : takeD 66 (D.i 0 :: D.i (A.length : Int) :: (cellsA A).map D.i) = D.i 0 :: D.i (A.length : Int) :: (cellsA A).map D.i := by
  have := takeD_len (D.i 0 :: D.i (A.length : Int) :: (cellsA A).map D.i)
  simpa only [List.length_cons, hl] using this
 have hX := exk_of (A := A) (F := List.replicate N 0) hN (by omega) (by simp) (fun v => by rw [hz v]; omega)
 have hex : D.p (.i (N : Int) :: ((cellsA A).map D.i ++ [.l ((List.replicate N (0 : Nat)).map encN)])) = exD N (cellsA A) (List.replicate N 0) := rfl
 have hpre2 : lsPre [exD N (cellsA A) (List.replicate N 0)] := ⟨N, _, _, rfl, hX⟩
 have hls : lsD [exD N (cellsA A) (List.replicate N 0)] = [.i (sizeD N A)] := ls_eq hN
 have hpre3 : prGr (.i (sizeD N A) :: .l (A.map encA) :: .i (A.length : Int) :: .i 0 :: .l ((List.replicate N (0 : Nat)).map encN) :: .i (N : Int) :: ((cellsA A).map D.i ++ [.l []])) := ⟨N, A, 0, List.replicate N 0, [], rfl, Nat.zero_le _, hN, hA, by omega, by simp, fun v => by rw [hz v]; omega, Nat.zero_le _⟩
 have hd3 : lpGr (.i (sizeD N A) :: .l (A.map encA) :: .i (A.length : Int) :: .i 0 :: .l ((List.replicate N (0 : Nat)).map encN) :: .i (N : Int) :: ((cellsA A).map D.i ++ [.l []])) =
   [.i 0, .i (A.length : Int), .l ((foldN (turnD N A (sizeD N A)) A.length 0 (List.replicate N 0, [])).1.map encN), .l ((leastD N A).map encN)] := by
  simp only [lpGr, gz0, gs0, D.int_i, tn0, Int.toNat_zero, D.lst_l, map_dec decA_enc, map_dec decN_enc, app_last hl, List.map_nil]
  rfl
 have hout : F 52 [.i (N : Int), .l (A.map encA)] = [.l ((leastD N A).map encN), .i 0] := by
  show clD _ = _
  simp only [clD, gz0, gs0, D.int_i, tn0, D.lst_l, map_dec decA_enc]
 rw [hout]
 simp (disch := omega) only [vt52, VT.ok, Nd.holds, X.outs, X.ds, X.d, Op1.ev, Op2.ev, takeD_zero, takeD_cons, List.cons_append, List.nil_append, gz0, gs0, D.int_i, D.bool_b, D.lst_l, tn0, lm0, fe0, implies_true, true_and, F70, R70, F15200, R15200, F15201, R15201, F69, R69, ↓reduceIte, dle_t, dlt_f, lm0, hv, hrep, hd1, htk, gt64 hl, ga64 hl, hex, hls, hd3, app_last hl, Bool.not_true, fe0]
 refine ⟨fun _ => hp', fun _ => hpre1, fun _ => hpre2, fun _ => hpre3, ?_⟩
 rw [List.getD_eq_getElem?_getD, List.getElem?_append_right (by simp [cellsA_len])]
 simp [cellsA_len]
end Go.Proofs.YtinaaabmmjpijaaDoor.rv
namespace Go.Proofs.YtinaaabmmjpijaaDoor.rv
set_option maxRecDepth 10000
open Go.RV Lo
theorem setA {l : List (Nat × Nat)} {i a b : Nat} : (l.map encA).set i [.i (a : Int), .i (b : Int)] = (l.set i (a, b)).map encA := by rw [List.map_set]; rfl
theorem m86 : Meets Tryd.prog 86 S86 (R 86) (F 86) := by
 refine meets_of_vt (pre := R) (Φ := F) mixed (sgAt_all (P := Tryd.prog) (pre := R) (Φ := F) (l := sg86) (fcm ⟨m90, (fun _ h => nomatch h)⟩)) Tryd.func86 b86 n86 (loops_n 0 k86 fun k hk => by omega) e86 fun ds _ hp => ?_
 obtain ⟨S, m, j, rfl, hj, hS, hm⟩ : rpPre ds := hp
 have hSl := hS.len
 have hrS := rowNn (l := S) hj
 have hany : ciFn [.l ((S.take j).map encN), .i (S.getD j 0 : Int)] = [.b false] := by
  have : anyN (fun k => (S.getD j 0 : Int) == cI (el ((S.take j).map encN) k) 0) (S.take j).length = false := by
   rw [anyN_false]
   intro k hk
   have hk' : k < (S.take j).length := hk
   rw [show el ((S.take j).map encN) k = encN ((S.take j).getD k 0) from rowNn hk']
   simp only [cI, encN, gz0, D.int_i]
   refine beq_f fun e => not_take hj hS.nd ?_
   have : S.getD j 0 = (S.take j).getD k 0 := by omega
   rw [this]
   exact getD_mem 0 hk'
  simp only [ciFn, cI, cL, gz0, gs0, D.int_i, D.lst_l, lm0] at this ⊢
  rw [this]
 have hout : F 86 [.l (S.map encN), .i (j : Int)] = [.b false] := rfl
 rw [hout]
 simp (disch := omega) only [vt86, VT.ok, Nd.holds, X.outs, X.ds, X.d, Op1.ev, Op2.ev, List.cons_append, List.nil_append, gz0, gs0, D.int_i, D.bool_b, D.lst_l, tn0, lm0, implies_true, true_and, takeD1_0, F90, R90, dle_t, dlt_t, lm0, hrS, encN]
 rw [Int.toNat_zero, List.drop_zero, ← List.map_take, hany]
 rfl
theorem loopM72_0 : LoopMeets Tryd.prog F (R L72_0.key) L72_0 lb72_0 := by
 refine loop_meets (pre := R) mixed (sgAt_all (P := Tryd.prog) (pre := R) (Φ := F) (l := sg72) (fcm ⟨m86, (fun _ h => nomatch h)⟩)) (loops_n 0 lk72_0 fun k hk => by omega) L72_0 (fun ρ => ((ρ.getD 4 default).int - (ρ.getD 5 default).int).toNat) le72_0 fun ρ _ hp => ?_
 obtain ⟨S, m, j, x, rfl, hj, hS, hm⟩ : prLi ρ := hp
 have hSl := hS.len
 by_cases hlt : j < S.length
 ·have hs : S.getD j 0 < m := hS.lt _ (by simp [List.getD, hlt])
  have hrS := rowNn (l := S) hlt
  have hpre : rpPre [.l (S.map encN), .i (j : Int)] := ⟨S, m, j, rfl, hlt, hS, hm⟩
  have hd : rpD [.l (S.map encN), .i (j : Int)] = [.b false] := rfl
  simp (disch := omega) only [rt72_0, VT.ok, Nd.holds, X.outs, X.ds, X.d, Op1.ev, Op2.ev, takeD_zero, takeD_cons, List.cons_append, List.nil_append, gz0, gs0, D.int_i, D.bool_b, D.lst_l, tn0, lm0, fe0, implies_true, true_and, F86, R86, ↓reduceIte, dle_t, dle_f, dlt_t, dlt_f, w64', lm0, hrS, encN, hd]
  refine ⟨fun _ => hpre, ?_⟩
  refine round_next ⟨⟨S, m, j + 1, x, rfl, by omega, hS, hm⟩, ?_, rfl⟩
  show ((S.length : Int) - ((j + 1 : Nat) : Int)).toNat < ((S.length : Int) - (j : Int)).toNat
  omega
 ·have hj : j = S.length := by omega
  subst hj
  simp (disch := omega) only [rt72_0, VT.ok, X.ds, X.d, Op2.ev, gz0, gs0, D.int_i, D.bool_b, fe0, ↓reduceIte, dlt_f]
  exact round_exit (by omega) rfl
theorem m72 : Meets Tryd.prog 72 S72 (R 72) (F 72) := by
 refine meets_of_vt (pre := R) (Φ := F) mixed (sgAt_all (P := Tryd.prog) (pre := R) (Φ := F) (l := sg72) (fcm ⟨m86, (fun _ h => nomatch h)⟩)) Tryd.func72 b72 n72 (loops_n 1 k72 fun k hk => match k, hk with | 0, _ => loop_this lf72_0 loopM72_0) e72 fun ds _ hp => ?_
 obtain ⟨S, m, rfl, hS, hm⟩ : liPre ds := hp
 have hSl := hS.len
 have hpre : prLi [.l (S.map encN), .i (m : Int), .i 0, .l (S.map encN), .i (S.length : Int), .i 0] := ⟨S, m, 0, _, rfl, Nat.zero_le _, hS, hm⟩
 have hd : lpLi [.l (S.map encN), .i (m : Int), .i 0, .l (S.map encN), .i (S.length : Int), .i 0] = [.i 1, .i 0, .i (S.length : Int)] := rfl
 have hout : F 72 [.l (S.map encN), .i (m : Int)] = [.i 0] := rfl
 rw [hout]
 simp (disch := omega) only [vt72, VT.ok, Nd.holds, X.outs, X.ds, X.d, Op1.ev, Op2.ev, takeD_zero, takeD_cons, List.cons_append, List.nil_append, gz0, gs0, D.int_i, D.bool_b, D.lst_l, lm0, fe0, and_true, F17200, R17200, ↓reduceIte, beq_f, lm0, hd]
 exact fun _ => hpre
theorem loopM54_0 : LoopMeets Tryd.prog F (R L54_0.key) L54_0 lb54_0 := by
 refine loop_meets (pre := R) mixed (sgAt_all (P := Tryd.prog) (pre := R) (Φ := F) (l := sg54) (fcm ⟨m69, fcm ⟨m72, fcm ⟨m73, (fun _ h => nomatch h)⟩⟩⟩)) (loops_n 0 lk54_0 fun k hk => by omega) L54_0 (fun ρ => ((ρ.getD 1 default).int - (ρ.getD 2 default).int).toNat) le54_0 fun ρ _ hp => ?_
 obtain ⟨A, S, j, x, y, rfl, hj, hS, hm⟩ : prFl ρ := hp
 have hSl := hS.len
 by_cases hlt : j < S.length
 ·have hs : S.getD j 0 < A.length := hS.lt _ (by simp [List.getD, hlt])
  have hrS := rowNn (l := S) hlt
  have hrA := rowA (l := A) hs
  have hfl := flipS_len A (S.take j)
  have hrB := rowA (l := flipS A (S.take j)) (i := S.getD j 0) (by omega)
  have hset : (flipS A (S.take j)).set (S.getD j 0) ((arc A (S.getD j 0)).2, (arc A (S.getD j 0)).1) = flipS A (S.take (j + 1)) := (flipS_step hlt hS).symm
  have hsp : ∀ a b c d : D, splice [a, b] 0 [c, d] = [c, d] := fun _ _ _ _ => rfl
  simp (disch := omega) only [rt54_0, VT.ok, Nd.holds, X.ds, X.d, Op1.ev, Op2.ev, gz0, gs0, D.int_i, D.bool_b, D.lst_l, tn0, lm0, implies_true, true_and, ↓reduceIte, dle_t, dlt_t, w64', lm0, hrS, encN, hrA, hrB, encA, hfl, hsp, setA, hset]
  refine round_next ⟨⟨A, S, j + 1, x, y, rfl, by omega, hS, hm⟩, ?_, rfl⟩
  show ((S.length : Int) - ((j + 1 : Nat) : Int)).toNat < ((S.length : Int) - (j : Int)).toNat
  omega
 ·have hj : j = S.length := by omega
  subst hj
  simp (disch := omega) only [rt54_0, VT.ok, X.ds, X.d, Op2.ev, gz0, gs0, D.int_i, D.bool_b, fe0, ↓reduceIte, dlt_f]
  refine round_exit (by omega) ?_
  show lpFl _ = _
  simp only [lpFl, gz0, gs0, D.lst_l, map_dec decA_enc, map_dec decN_enc, List.take_length]
theorem m54 : Meets Tryd.prog 54 S54 (R 54) (F 54) := by
 refine meets_of_vt (pre := R) (Φ := F) mixed (sgAt_all (P := Tryd.prog) (pre := R) (Φ := F) (l := sg54) (fcm ⟨m69, fcm ⟨m72, fcm ⟨m73, (fun _ h => nomatch h)⟩⟩⟩)) Tryd.func54 b54 n54 (loops_n 1 k54 fun k hk => match k, hk with | 0, _ => loop_this lf54_0 loopM54_0) e54 fun ds _ hp => ?_
 obtain ⟨N, A, S, rfl, hN, hA, hm, hS⟩ : flPre ds := hp
 have hSl := hS.len
 have h1 : dgPre [.i (N : Int), .l (A.map encA)] := ⟨N, A, rfl, hN, hA, hm⟩
 have h2 : dvD [.i (N : Int), .l (A.map encA)] = [.b true] := rfl
 have h3 : liPre [.l (S.map encN), .i (A.length : Int)] := ⟨S, _, rfl, hS, by omega⟩
 have h4 : liD [.l (S.map encN), .i (A.length : Int)] = [.i 0] := rfl
 have h5 : clonePre [.l (A.map encA)] := ⟨_, rfl, by rw [lm0]; omega⟩
 have h6 : cloneD [.l (A.map encA)] = [.l (A.map encA)] := rfl
 have h7 : prFl [.l (S.map encN), .i (S.length : Int), .i 0, .i (N : Int), .l (A.map encA), .l (A.map encA), .i (N : Int)] := ⟨A, S, 0, _, _, by rw [List.take_zero, flipS_nil]; rfl, Nat.zero_le _, hS, by omega⟩
 have h8 : lpFl [.l (S.map encN), .i (S.length : Int), .i 0, .i (N : Int), .l (A.map encA), .l (A.map encA), .i (N : Int)] = [.i 0, .i (S.length : Int), .l ((flipS A S).map encA)] := by
  simp only [lpFl, gz0, gs0, D.lst_l, map_dec decA_enc, map_dec decN_enc]
 have hout : F 54 [.i (N : Int), .l (A.map encA), .l (S.map encN)] = [.i (N : Int), .l ((flipS A S).map encA), .i 0] := by
  show flD _ = _
  simp only [flD, gz0, gs0, D.lst_l, map_dec decA_enc, map_dec decN_enc]
 rw [hout]
 simp (disch := omega) only [vt54, VT.ok, Nd.holds, X.outs, X.ds, X.d, Op1.ev, Op2.ev, takeD_zero, takeD_cons, List.cons_append, List.nil_append, gz0, gs0, D.int_i, D.bool_b, D.lst_l, lm0, fe0, and_true, F69, R69, F15400, R15400, F72, R72, F73, R73, ↓reduceIte, beq_t, lm0, h2, h4, h6, h8, Bool.not_true, fe0]
 exact ⟨fun _ => h1, fun _ => h3, fun _ => h5, fun _ => h7⟩
theorem m53 : Meets Tryd.prog 53 S53 (R 53) (F 53) := meets_none Tryd.func53 b53 n53
theorem leastD_ok {N : Nat} {A : List (Nat × Nat)} (hN : N ≤ 8) (hA : Okk N A) (hm : A.length < 1048576) : OkS (leastD N A) A.length := by
 rw [least_same hN hA hm]
 obtain ⟨⟨p, _, _, he⟩, _⟩ := srch_spec (A := A) N [] (Ord.nil N) (by simp)
 rw [← he]
 exact ⟨(back_sorted A p).imp fun h => by omega, fun s hs => (mem_back.1 hs).1⟩
theorem m33 : Meets Tryd.prog 33 S33 (R 33) (F 33) := by
 refine meets_of_vt (pre := R) (Φ := F) mixed (sgAt_all (P := Tryd.prog) (pre := R) (Φ := F) (l := sg33) (fcm ⟨m52, fcm ⟨m53, fcm ⟨m54, (fun _ h => nomatch h)⟩⟩⟩)) Tryd.func33 b33 n33 (loops_n 0 k33 fun k hk => by omega) e33 fun ds _ hp => ?_
 have hp' := hp
 obtain ⟨N, A, rfl, hN, hA, hm⟩ : dgPre ds := hp
 have h1 : clD [.i (N : Int), .l (A.map encA)] = [.l ((leastD N A).map encN), .i 0] := by
  simp only [clD, gz0, gs0, D.int_i, tn0, D.lst_l, map_dec decA_enc]
 have h2 : flPre [.i (N : Int), .l (A.map encA), .l ((leastD N A).map encN)] := ⟨N, A, _, rfl, hN, hA, hm, leastD_ok hN hA (by omega)⟩
 have h3 : flD [.i (N : Int), .l (A.map encA), .l ((leastD N A).map encN)] = [.i (N : Int), .l ((flipS A (leastD N A)).map encA), .i 0] := by
  simp only [flD, gz0, gs0, D.lst_l, map_dec decA_enc, map_dec decN_enc]
 have hout : F 33 [.i (N : Int), .l (A.map encA)] = [.l ((leastD N A).map encN), .i (N : Int), .l ((flipS A (leastD N A)).map encA)] := by
  show bkD _ = _
  simp only [bkD, gz0, gs0, D.int_i, tn0, D.lst_l, map_dec decA_enc]
 rw [hout]
 simp (disch := omega) only [vt33, VT.ok, Nd.holds, X.outs, X.ds, X.d, Op1.ev, Op2.ev, takeD_zero, takeD_cons, List.cons_append, List.nil_append, gz0, gs0, D.int_i, D.bool_b, fe0, and_true, F52, R52, F54, R54, ↓reduceIte, beq_t, h1, h3, Bool.not_true, fe0]
 exact ⟨fun _ => hp', fun _ => h2⟩
end Go.Proofs.YtinaaabmmjpijaaDoor.rv
namespace Go.Proofs.YtinaaabmmjpijaaDoor.rv
set_option maxRecDepth 10000
open Go.RV Lo
theorem loopM39_0 : LoopMeets Tryd.prog F (R L39_0.key) L39_0 lb39_0 := by
 refine loop_meets (pre := R) mixed (sgAt_all (P := Tryd.prog) (pre := R) (Φ := F) (l := sg39) ((fun _ h => nomatch h))) (loops_n 0 lk39_0 fun k hk => by omega) L39_0 (fun ρ => (((ρ.getD 3 default).lst.length : Int) - (ρ.getD 1 default).int).toNat) le39_0 fun ρ _ hp => ?_
 obtain ⟨N, A, i, x, rfl, hi, hA, hm⟩ : prRv ρ := hp
 by_cases hlt : i < A.length
 ·obtain ⟨a1, a2⟩ := arc_lt hA hlt
  have hr := rowA (l := A) hlt
  simp (disch := omega) only [rt39_0, VT.ok, Nd.holds, X.ds, X.d, Op1.ev, Op2.ev, gz0, gs0, D.int_i, D.bool_b, D.lst_l, tn0, lm0, fe0, implies_true, true_and, ↓reduceIte, dle_t, dle_f, dlt_t, dlt_f, w64', lm0, hr, encA, fe0]
  refine round_next ⟨⟨N, A, i + 1, x, rfl, by omega, hA, hm⟩, ?_, rfl⟩
  show (((A.map encA).length : Int) - ((i + 1 : Nat) : Int)).toNat < (((A.map encA).length : Int) - (i : Int)).toNat
  rw [lm0]; omega
 ·have hj : i = A.length := by omega
  subst hj
  simp (disch := omega) only [rt39_0, VT.ok, X.ds, X.d, Op1.ev, Op2.ev, gz0, gs0, D.int_i, D.bool_b, D.lst_l, lm0, fe0, ↓reduceIte, dlt_f, lm0]
  refine round_exit (by omega) ?_
  show lpRv _ = _
  simp only [lpRv, gz0, gs0, D.lst_l, lm0]
theorem m39 : Meets Tryd.prog 39 S39 (R 39) (F 39) := by
 refine meets_of_vt (pre := R) (Φ := F) mixed (sgAt_all (P := Tryd.prog) (pre := R) (Φ := F) (l := sg39) ((fun _ h => nomatch h))) Tryd.func39 b39 n39 (loops_n 1 k39 fun k hk => match k, hk with | 0, _ => loop_this lf39_0 loopM39_0) e39 fun ds _ hp => ?_
 obtain ⟨N, A, rfl, hN, hA, hm⟩ : dgPre ds := hp
 have hpre : prRv [.b false, .i 0, .i (N : Int), .l (A.map encA)] := ⟨N, A, 0, _, rfl, Nat.zero_le _, hA, hm⟩
 have hc : lpRv [.b false, .i 0, .i (N : Int), .l (A.map encA)] = [.i 1, .b false, .i (A.length : Int)] := by
  simp only [lpRv, gz0, gs0, D.lst_l, lm0]
 have hout : F 39 [.i (N : Int), .l (A.map encA)] = [.b true] := rfl
 rw [hout]
 simp (disch := omega) only [vt39, VT.ok, Nd.holds, X.outs, X.ds, X.d, Op1.ev, Op2.ev, takeD_zero, takeD_cons, List.cons_append, List.nil_append, gz0, gs0, D.int_i, D.bool_b, D.lst_l, lm0, fe0, and_true, F13900, R13900, ↓reduceIte, dlt_f, beq_f, lm0, hc]
 exact fun _ => hpre
theorem atR_len (N : Nat) (o : List Nat) : (atR N o).length = N := by simp [atR]
theorem atR_get {N v : Nat} (o : List Nat) (h : v < N) : (atR N o).getD v 0 = if v ∈ o then o.idxOf v else 0 := by simp [atR, List.getD, h]
theorem natL_ext {l m : List Nat} (h : l.length = m.length) (hg : ∀ i, i < l.length → l.getD i 0 = m.getD i 0) : l = m := by
 refine List.ext_getElem h fun i h1 h2 => ?_
 have := hg i h1
 simpa [List.getD, h1, h2] using this
theorem atR_step {N : Nat} {o : List Nat} {i : Nat} (h : i < o.length) (ho : Ord N o) : atR N (o.take (i + 1)) = (atR N (o.take i)).set (o.getD i 0) i := by
 have hv : o.getD i 0 < N := ho.lt _ (by simp [List.getD, h])
 refine natL_ext (by simp [atR_len]) fun v hv' => ?_
 rw [atR_len] at hv'
 rw [atR_get _ hv']
 have ht : o.take (i + 1) = o.take i ++ [o.getD i 0] := by
  rw [List.take_succ_eq_append_getElem h]
  simp [List.getD, h]
 have hnt := not_take h ho.nd
 by_cases e : v = o.getD i 0
 ·subst e
  rw [if_pos ((mem_take_succ h).2 (.inr rfl)), ht, List.idxOf_append, if_neg hnt]
  have h1 : o.getD i 0 < (atR N (o.take i)).length := by rw [atR_len]; exact hv
  have h2 : ∀ (l : List Nat) (a b : Nat), a < l.length → (l.set a b).getD a 0 = b := fun l a b h => by simp [List.getD, h]
  rw [h2 _ _ _ h1]
  simp
  omega
 ·have h2 : ((atR N (o.take i)).set (o.getD i 0) i).getD v 0 = (atR N (o.take i)).getD v 0 := by
   rw [List.getD_eq_getElem?_getD, List.getElem?_set_ne (fun x => e x.symm), List.getD_eq_getElem?_getD]
  rw [h2, atR_get _ hv']
  by_cases hm : v ∈ o.take i
  ·rw [if_pos hm, if_pos ((mem_take_succ h).2 (.inl hm)), ht, List.idxOf_append, if_pos hm]
  ·rw [if_neg hm, if_neg fun h' => ?_]
   rcases (mem_take_succ h).1 h' with h' | h'
   ·exact hm h'
   ·exact e h'
theorem loopM59_0 : LoopMeets Tryd.prog F (R L59_0.key) L59_0 lb59_0 := by
 refine loop_meets (pre := R) mixed (sgAt_all (P := Tryd.prog) (pre := R) (Φ := F) (l := sg59) ((fun _ h => nomatch h))) (loops_n 0 lk59_0 fun k hk => by omega) L59_0 (fun ρ => (((ρ.getD 0 default).lst.length : Int) - (ρ.getD 1 default).int).toNat) le59_0 fun ρ _ hp => ?_
 obtain ⟨N, o, i, rfl, hi, ho, hN⟩ : prAt ρ := hp
 have hol := ho.len
 have hal := atR_len N (o.take i)
 by_cases hlt : i < o.length
 ·have hv : o.getD i 0 < N := ho.lt _ (by simp [List.getD, hlt])
  have hro := rowNn (l := o) hlt
  have hra := rowNn (l := atR N (o.take i)) (i := o.getD i 0) (by omega)
  have hst := (atR_step hlt ho).symm
  simp (disch := omega) only [rt59_0, VT.ok, Nd.holds, X.ds, X.d, Op1.ev, Op2.ev, gz0, gs0, D.int_i, D.bool_b, D.lst_l, tn0, lm0, implies_true, true_and, ↓reduceIte, dle_t, dlt_t, w64', lm0, hro, encN, hal, hra, splI, setN, hst]
  refine round_next ⟨⟨N, o, i + 1, rfl, by omega, ho, hN⟩, ?_, ?_⟩
  ·show (((o.map encN).length : Int) - ((i + 1 : Nat) : Int)).toNat < (((o.map encN).length : Int) - (i : Int)).toNat
   rw [lm0]; omega
  ·show lpAt [.l (o.map encN), .i ((i + 1 : Nat) : Int), .l ((atR N (o.take (i + 1))).map encN)] = lpAt [.l (o.map encN), .i (i : Int), .l ((atR N (o.take i)).map encN)]
   simp only [lpAt, gz0, gs0, D.lst_l, lm0, atR_len]
 ·have hj : i = o.length := by omega
  subst hj
  simp (disch := omega) only [rt59_0, VT.ok, X.ds, X.d, Op1.ev, Op2.ev, gz0, gs0, D.int_i, D.bool_b, D.lst_l, lm0, fe0, ↓reduceIte, dlt_f, lm0]
  refine round_exit (by omega) ?_
  show lpAt _ = _
  simp only [lpAt, gz0, gs0, D.lst_l, lm0, atR_len, map_dec decN_enc, List.take_length]
theorem loopM59_1 : LoopMeets Tryd.prog F (R L59_1.key) L59_1 lb59_1 := by
 refine loop_meets (pre := R) mixed (sgAt_all (P := Tryd.prog) (pre := R) (Φ := F) (l := sg59) ((fun _ h => nomatch h))) (loops_n 0 lk59_1 fun k hk => by omega) L59_1 (fun ρ => (((ρ.getD 2 default).lst.length : Int) - (ρ.getD 0 default).int).toNat) le59_1 fun ρ _ hp => ?_
 obtain ⟨N, A, t, i, rfl, hi, hA, hm, ht⟩ : prBk ρ := hp
 have hfl : ((List.range i).filter (bkAt A t)).length ≤ i := by
  have := List.length_filter_le (bkAt A t) (List.range i)
  simpa using this
 by_cases hlt : i < A.length
 ·obtain ⟨a1, a2⟩ := arc_lt hA hlt
  have hr := rowA (l := A) hlt
  have r1 := rowNn (l := t) (i := (arc A i).1) (by omega)
  have r2 := rowNn (l := t) (i := (arc A i).2) (by omega)
  have hnx : RoundOk F (R L59_1.key) (fun ρ => (((ρ.getD 2 default).lst.length : Int) - (ρ.getD 0 default).int).toNat) L59_1 [.i (i : Int), .i (N : Int), .l (A.map encA), .l (t.map encN), .l (((List.range i).filter (bkAt A t)).map encN)] [.i (-1), .i ((i : Int) + 1), .l (((List.range (i + 1)).filter (bkAt A t)).map encN)] := by
   refine round_next ⟨⟨N, A, t, i + 1, rfl, by omega, hA, hm, ht⟩, ?_, rfl⟩
   show (((A.map encA).length : Int) - ((i + 1 : Nat) : Int)).toNat < (((A.map encA).length : Int) - (i : Int)).toNat
   rw [lm0]; omega
  have hsu : (List.range (i + 1)).filter (bkAt A t) = (List.range i).filter (bkAt A t) ++ if bkAt A t i = true then [i] else [] := by
   rw [List.range_succ, List.filter_append]
   congr 1
   by_cases h : bkAt A t i = true <;> simp [h]
  rw [hsu] at hnx
  cases hb : bkAt A t i with
  | true =>
   rw [hb, if_pos rfl] at hnx
   have hlt' : (t.getD (arc A i).2 0 : Int) < (t.getD (arc A i).1 0 : Int) := by
    have : t.getD (arc A i).2 0 < t.getD (arc A i).1 0 := by simpa [bkAt] using hb
    omega
   simp (disch := omega) only [rt59_1, VT.ok, Nd.holds, X.ds, X.d, Op1.ev, Op2.ev, gz0, gs0, D.int_i, D.bool_b, D.lst_l, tn0, lm0, implies_true, true_and, ↓reduceIte, dle_t, dlt_t, w64', lm0, hr, encA, r1, r2, encN, catN, List.length_append, List.length_singleton, ht]
   exact hnx
  | false =>
   rw [hb, if_neg (by decide), List.append_nil] at hnx
   have hlt' : (t.getD (arc A i).1 0 : Int) ≤ (t.getD (arc A i).2 0 : Int) := by
    have : ¬ t.getD (arc A i).2 0 < t.getD (arc A i).1 0 := by simpa [bkAt] using hb
    omega
   simp (disch := omega) only [rt59_1, VT.ok, Nd.holds, X.ds, X.d, Op1.ev, Op2.ev, gz0, gs0, D.int_i, D.bool_b, D.lst_l, tn0, lm0, fe0, implies_true, true_and, ↓reduceIte, dle_t, dlt_t, dlt_f, w64', lm0, hr, encA, r1, r2, encN, ht]
   exact hnx
 ·have hj : i = A.length := by omega
  subst hj
  simp (disch := omega) only [rt59_1, VT.ok, X.ds, X.d, Op1.ev, Op2.ev, gz0, gs0, D.int_i, D.bool_b, D.lst_l, lm0, fe0, ↓reduceIte, dlt_f, lm0]
  refine round_exit (by omega) ?_
  show lpBk _ = _
  simp only [lpBk, gz0, gs0, D.lst_l, lm0, map_dec decA_enc, map_dec decN_enc]
theorem bkAt_eq {N : Nat} {A : List (Nat × Nat)} {o : List Nat} (hA : Okk N A) (ho : Full N o) : (List.range A.length).filter (bkAt A (atR N o)) = backL A o := by
 refine List.filter_congr fun i hi => ?_
 obtain ⟨a1, a2⟩ := arc_lt hA (List.mem_range.1 hi)
 rw [bkAt, isBk, atR_get o a1, atR_get o a2, if_pos (ho.mem a1), if_pos (ho.mem a2)]
theorem m59 : Meets Tryd.prog 59 S59 (R 59) (F 59) := by
 refine meets_of_vt (pre := R) (Φ := F) mixed (sgAt_all (P := Tryd.prog) (pre := R) (Φ := F) (l := sg59) ((fun _ h => nomatch h))) Tryd.func59 b59 n59 (loops_n 2 k59 fun k hk => match k, hk with | 0, _ => loop_this lf59_0 loopM59_0 | 1, _ => loop_this lf59_1 loopM59_1) e59 fun ds _ hp => ?_
 obtain ⟨N, A, o, rfl, hN, hA, hm, ho⟩ : bwPre ds := hp
 have hat0 : List.replicate N [D.i 0] = (atR N []).map encN := by
  have : atR N [] = List.replicate N 0 := natL_ext (by simp [atR_len]) fun v hv => by
   rw [atR_len] at hv
   rw [atR_get _ hv]
   simp [List.getD, hv]
  rw [this, List.map_replicate]; rfl
 have h1 : prAt [.l (o.map encN), .i 0, .l ((atR N []).map encN)] := ⟨N, o, 0, rfl, Nat.zero_le _, ho.ord, hN⟩
 have h2 : lpAt [.l (o.map encN), .i 0, .l ((atR N []).map encN)] = [.i 0, .i (o.length : Int), .l ((atR N o).map encN)] := by
  simp only [lpAt, gz0, gs0, D.lst_l, lm0, atR_len, map_dec decN_enc]
 have h3 : prBk [.i 0, .i (N : Int), .l (A.map encA), .l ((atR N o).map encN), .l []] := ⟨N, A, atR N o, 0, rfl, Nat.zero_le _, hA, hm, atR_len N o⟩
 have h4 : lpBk [.i 0, .i (N : Int), .l (A.map encA), .l ((atR N o).map encN), .l []] = [.i 0, .i (A.length : Int), .l ((backL A o).map encN)] := by
  simp only [lpBk, gz0, gs0, D.lst_l, lm0, map_dec decA_enc, map_dec decN_enc, bkAt_eq hA ho]
 have hout : F 59 [.i (N : Int), .l (A.map encA), .l (o.map encN)] = [.l ((backL A o).map encN)] := by
  show bwD _ = _
  simp only [bwD, gz0, gs0, D.lst_l, map_dec decA_enc, map_dec decN_enc]
 rw [hout]
 simp (disch := omega) only [vt59, VT.ok, Nd.holds, X.outs, X.ds, X.d, Op2.ev, takeD_zero, takeD_cons, List.cons_append, List.nil_append, gz0, gs0, D.int_i, D.bool_b, tn0, implies_true, true_and, and_true, F15900, R15900, F15901, R15901, dle_t, hat0, h2, h4]
 exact ⟨fun _ => h1, fun _ => h3⟩
theorem loopM77_0 : LoopMeets Tryd.prog F (R L77_0.key) L77_0 lb77_0 := by
 refine loop_meets (pre := R) mixed (sgAt_all (P := Tryd.prog) (pre := R) (Φ := F) (l := sg77) ((fun _ h => nomatch h))) (loops_n 0 lk77_0 fun k hk => by omega) L77_0 (fun ρ => (((ρ.getD 0 default).lst.length : Int) - (ρ.getD 3 default).int).toNat) le77_0 fun ρ _ hp => ?_
 obtain ⟨a, b, x, i, rfl, hi, hl, hm⟩ : prLx ρ := hp
 by_cases hlt : i < a.length
 ·have r1 := rowNn (l := a) hlt
  have r2 := rowNn (l := b) (i := i) (by omega)
  have d1 : a.drop i = a.getD i 0 :: a.drop (i + 1) := by rw [List.drop_eq_getElem_cons hlt]; simp [List.getD, hlt]
  have hlb : i < b.length := by omega
  have d2 : b.drop i = b.getD i 0 :: b.drop (i + 1) := by rw [List.drop_eq_getElem_cons hlb]; simp [List.getD, hlb]
  by_cases e : a.getD i 0 = b.getD i 0
  ·simp (disch := omega) only [rt77_0, VT.ok, Nd.holds, X.ds, X.d, Op1.ev, Op2.ev, gz0, gs0, D.int_i, D.bool_b, D.lst_l, tn0, lm0, fe0, implies_true, true_and, ↓reduceIte, dle_t, dlt_t, beq_t, w64', lm0, r1, r2, encN, Bool.not_true, fe0]
   refine round_next ⟨⟨a, b, x, i + 1, rfl, by omega, hl, hm⟩, ?_, ?_⟩
   ·show (((a.map encN).length : Int) - ((i + 1 : Nat) : Int)).toNat < (((a.map encN).length : Int) - (i : Int)).toNat
    rw [lm0]; omega
   ·show lpLx [.l (a.map encN), .l (b.map encN), x, .i ((i + 1 : Nat) : Int)] = lpLx [.l (a.map encN), .l (b.map encN), x, .i (i : Int)]
    simp only [lpLx, gz0, gs0, D.lst_l, D.int_i, tn0, map_dec decN_enc]
    rw [d1, d2, lxScan, if_pos e]
  ·simp (disch := omega) only [rt77_0, VT.ok, Nd.holds, X.ds, X.d, Op1.ev, Op2.ev, gz0, gs0, D.int_i, D.bool_b, D.lst_l, tn0, lm0, implies_true, true_and, ↓reduceIte, dle_t, dlt_t, beq_f, lm0, r1, r2, encN, Bool.not_false]
   refine round_exit (by omega) ?_
   show lpLx [.l (a.map encN), .l (b.map encN), x, .i (i : Int)] = _
   simp only [lpLx, gz0, gs0, D.lst_l, D.int_i, tn0, map_dec decN_enc]
   rw [d1, d2, lxScan, if_neg e]
   simp
 ·have hj : i = a.length := by omega
  subst hj
  simp (disch := omega) only [rt77_0, VT.ok, X.ds, X.d, Op1.ev, Op2.ev, gz0, gs0, D.int_i, D.bool_b, D.lst_l, lm0, fe0, ↓reduceIte, dlt_f, lm0]
  refine round_exit (by omega) ?_
  show lpLx [.l (a.map encN), .l (b.map encN), x, .i (a.length : Int)] = _
  simp only [lpLx, gz0, gs0, D.lst_l, D.int_i, tn0, map_dec decN_enc]
  rw [List.drop_length, lxScan]
  intro a1 as1 b1 bs1 h
  cases h
theorem lxScan_two : ∀ (a b : List Nat) (x : D) (i : Nat), (∃ j : Nat, lxScan a b x i = [.i 0, .b (lexL a b), .i (j : Int)]) ∨ (lexL a b = false ∧ ∃ j : Nat, lxScan a b x i = [.i 1, x, .i (j : Int)])
 | [], b, x, i => .inr ⟨by simp [lexL], i, by simp [lxScan]⟩
 | a :: la, [], x, i => .inr ⟨by simp [lexL], i, by simp [lxScan]⟩
 | a :: la, b :: lb, x, i => by
  by_cases e : a = b
  ·have h1 : lexL (a :: la) (b :: lb) = lexL la lb := by rw [lexL, if_pos e]
   have h2 : lxScan (a :: la) (b :: lb) x i = lxScan la lb x (i + 1) := by rw [lxScan, if_pos e]
   rw [h1, h2]
   exact lxScan_two la lb x (i + 1)
  ·refine .inl ⟨i, ?_⟩
   rw [lxScan, if_neg e, lexL, if_neg e]
theorem m77 : Meets Tryd.prog 77 S77 (R 77) (F 77) := by
 refine meets_of_vt (pre := R) (Φ := F) mixed (sgAt_all (P := Tryd.prog) (pre := R) (Φ := F) (l := sg77) ((fun _ h => nomatch h))) Tryd.func77 b77 n77 (loops_n 1 k77 fun k hk => match k, hk with | 0, _ => loop_this lf77_0 loopM77_0) e77 fun ds _ hp => ?_
 obtain ⟨a, b, rfl, ha, hb⟩ : lxPre ds := hp
 have hout : F 77 [.l (a.map encN), .l (b.map encN)] = [.b (lessL a b)] := by
  show lxD _ = _
  simp only [lxD, gz0, gs0, D.lst_l, map_dec decN_enc]
 rw [hout]
 by_cases e : a.length = b.length
 ·have h1 : prLx [.l (a.map encN), .l (b.map encN), .b false, .i 0] := ⟨a, b, _, 0, rfl, Nat.zero_le _, e, ha⟩
  have h2 : lpLx [.l (a.map encN), .l (b.map encN), .b false, .i 0] = lxScan a b (.b false) 0 := by
   simp only [lpLx, gz0, gs0, D.lst_l, D.int_i, Int.toNat_zero, map_dec decN_enc, List.drop_zero]
  simp (disch := omega) only [vt77, VT.ok, Nd.holds, X.outs, X.ds, X.d, Op1.ev, Op2.ev, List.cons_append, List.nil_append, gz0, gs0, D.int_i, D.bool_b, D.lst_l, lm0, fe0, F17700, R17700, ↓reduceIte, beq_t, lm0, h2, lessL, e, Bool.not_true]
  refine ⟨fun _ => h1, ?_⟩
  rcases lxScan_two a b (.b false) 0 with ⟨j, h⟩ | ⟨h', j, h⟩
  ·rw [h]; rfl
  ·rw [h, h']; rfl
 ·simp (disch := omega) only [vt77, VT.ok, X.ds, X.d, Op1.ev, Op2.ev, gz0, gs0, D.int_i, D.bool_b, D.lst_l, lm0, ↓reduceIte, beq_f, lm0, lessL, e, Bool.not_false]
  simp
end Go.Proofs.YtinaaabmmjpijaaDoor.rv
