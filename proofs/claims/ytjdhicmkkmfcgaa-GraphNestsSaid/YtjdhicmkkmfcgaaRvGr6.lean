/-
  Graphs: nodes.
-/
import Derived.Test.YtjdhicmkkmfcgaaRvGr5
namespace Go.Proofs.Ytjdhicmkkmfcgaa.rv
open Go.RV

theorem if4 (a b c d : Bool) (p : Int) : if (!a || !b || c || d) = true then [D.i 3] = [D.i (if (a && b && !c && !d) = true then p else 3)] else [D.i p] = [D.i (if (a && b && !c && !d) = true then p else 3)] := by
  cases a <;> cases b <;> cases c <;> cases d <;> rfl
theorem m28 : Meets Try.prog 28 S28 (R 28) (F 28) := by
  refine meets_of_vt (pre := R) (Φ := F) mixed (sgAt_all (P := Try.prog) (pre := R) (Φ := F) (l := sg28) (List.forall_mem_cons.2 ⟨Meets.at (pre := R) (Φ := F) m27, List.forall_mem_cons.2 ⟨Meets.at (pre := R) (Φ := F) m11, List.forall_mem_cons.2 ⟨Meets.at (pre := R) (Φ := F) m49, List.forall_mem_cons.2 ⟨Meets.at (pre := R) (Φ := F) m50, List.forall_mem_cons.2 ⟨Meets.at (pre := R) (Φ := F) m51, (fun _ h => nomatch h)⟩⟩⟩⟩⟩)) Try.func28 b28 n28 (loops_n 0 k28 fun k hk => by omega) e28 fun ds hf hq => ?_
  obtain ⟨g, ds', rfl, h5, _, ⟨hmN, hN⟩, _⟩ := fitsG hf.flat
  obtain ⟨x, rfl, hx⟩ := fits1 h5
  obtain ⟨i, e, hi⟩ : prNode (.s g.nm :: .b g.dr :: .l g.N :: .l g.E :: .l g.C :: [x]) := hq
  have e : x = .i (i : Int) := e
  subst e
  have hi : i < g.N.length := hi
  simp (disch := omega) only [vt28, VT.ok, Nd.holds, X.outs, X.ds, X.d, Op1.ev, Op2.ev, takeD_zero, takeD_cons, List.cons_append, List.nil_append, List.getD_cons_zero, List.getD_cons_succ, D.int_i, D.bool_b, D.lst_l, ite_b, ite_or, Int.toNat_natCast, implies_true, true_and, F27, R27, F11, R11, F49, R49, F50, R50, F51, R51, F28, dle_t, dlt_t, nameD, findD, labelD, fn50_eq, sizedD, ports8D, nodeD, nodeE, cS, cI, cL, Int.toNat_natCast]
  cases h1 : isName (cS (el g.N i) 0)
  · simp only [Bool.not_false, if_true, Bool.false_eq_true, if_false]
  · simp only [Bool.not_true, if_true, Bool.false_eq_true, if_false]
    by_cases h2 : find g.N (cS (el g.N i) 0) < i
    · rw [if_pos (by exact dec_t h2), if_pos h2]
    · rw [if_neg (by exact dec_f h2), if_neg h2]
      by_cases h3 : labelE (cS (el g.N i) 1) = 0
      · rw [if_neg (by exact bne_f h3), if_pos h3]
        exact if4 _ _ _ _ _
      · rw [if_pos (by exact bne_t h3), if_neg h3]
theorem m32 : Meets Try.prog 32 S32 (R 32) (F 32) := by
  refine meets_of_vt (pre := R) (Φ := F) mixed (sgAt_all (P := Try.prog) (pre := R) (Φ := F) (l := sg32) (List.forall_mem_cons.2 ⟨Meets.at (pre := R) (Φ := F) m31, List.forall_mem_cons.2 ⟨Meets.at (pre := R) (Φ := F) m12, List.forall_mem_cons.2 ⟨Meets.at (pre := R) (Φ := F) m56, List.forall_mem_cons.2 ⟨Meets.at (pre := R) (Φ := F) m57, (fun _ h => nomatch h)⟩⟩⟩⟩)) Try.func32 b32 n32 (loops_n 0 k32 fun k hk => by omega) e32 fun ds hf hq => ?_
  obtain ⟨g, ds', rfl, h5, _, ⟨hmN, hN⟩, _⟩ := fitsG hf.flat
  obtain ⟨x, rfl, hx⟩ := fits1 h5
  obtain ⟨i, e, hi⟩ : prNode (.s g.nm :: .b g.dr :: .l g.N :: .l g.E :: .l g.C :: [x]) := hq
  have e : x = .i (i : Int) := e
  subst e
  have hi : i < g.N.length := hi
  have hfl := find_le hi
  have hF : F 32 (.s g.nm :: .b g.dr :: .l g.N :: .l g.E :: .l g.C :: [.i (i : Int)]) = [.i (nodeE g.N g.C i)] := rfl
  rw [hF]
  generalize hv : nodeE g.N g.C i = res
  unfold nodeE at hv
  simp (disch := omega) only [vt32, VT.ok, Nd.holds, X.outs, X.ds, X.d, Op1.ev, Op2.ev, takeD_zero, takeD_cons, List.cons_append, List.nil_append, List.getD_cons_zero, List.getD_cons_succ, D.int_i, D.bool_b, D.lst_l, ite_b, ite_or, Int.toNat_natCast, implies_true, true_and, F31, R31, F12, R12, F56, R56, F57, R57, dle_t, dlt_t, nameD, findD, plainD, portsD, cS, cL, Int.toNat_natCast]
  cases h1 : isName (cS (el g.N i) 0)
  · rw [h1] at hv
    simp only [Bool.not_false, if_true]
    rw [← hv]; rfl
  · simp only [h1, if_true] at hv
    simp only [Bool.not_true, Bool.false_eq_true, if_false]
    by_cases h2 : find g.N (cS (el g.N i) 0) < i
    · rw [if_pos h2] at hv
      have h2' : find g.N (cS (el g.N i) 0) ≠ i := by omega
      rw [if_pos (by exact bne_t h2'), ← hv]
    · rw [if_neg h2] at hv
      have h2' : find g.N (cS (el g.N i) 0) = i := by omega
      rw [if_neg (by exact bne_f h2')]
      by_cases h4 : 32 < ((cS (el g.N i) 1).size : Int)
      · have h3 : labelE (cS (el g.N i) 1) = 2 := by rw [labelE, if_pos h4]
        rw [h3, if_neg (by decide)] at hv
        rw [if_pos (by exact dec_t h4), ← hv]
      · rw [if_neg (by exact dec_f h4)]
        cases h6 : plainB (cS (el g.N i) 1)
        · have h3 : labelE (cS (el g.N i) 1) = 7 := by rw [labelE, if_neg h4, h6]; rfl
          rw [h3, if_neg (by decide)] at hv
          simp only [Bool.not_false, if_true]
          rw [← hv]
        · have h3 : labelE (cS (el g.N i) 1) = 0 := by rw [labelE, if_neg h4, h6]; rfl
          rw [h3, if_pos rfl] at hv
          simp only [Bool.not_true, Bool.false_eq_true, if_false]
          have f : ∀ x : Int, sizedB x = !(decide (x < 1) || decide (1048576 < x)) := fun x => by
            unfold sizedB
            rw [Bool.not_or, ← decide_not, ← decide_not]
            congr 1 <;> exact decide_eq_decide.2 (by omega)
          have e : (sizedB (cI (el g.N i) 2) && sizedB (cI (el g.N i) 3) && !decide (cI (el g.N i) 4 < -1) && !decide ((g.C.length : Int) ≤ cI (el g.N i) 4)) = !(((((decide (cI (el g.N i) 2 < 1) || decide (1048576 < cI (el g.N i) 2)) || decide (cI (el g.N i) 3 < 1)) || decide (1048576 < cI (el g.N i) 3)) || decide (cI (el g.N i) 4 < -1)) || decide ((g.C.length : Int) ≤ cI (el g.N i) 4)) := by
            rw [f, f]
            simp only [Bool.not_or, Bool.and_assoc]
          rw [e] at hv
          cases hc : (((((decide (cI (el g.N i) 2 < 1) || decide (1048576 < cI (el g.N i) 2)) || decide (cI (el g.N i) 3 < 1)) || decide (1048576 < cI (el g.N i) 3)) || decide (cI (el g.N i) 4 < -1)) || decide ((g.C.length : Int) ≤ cI (el g.N i) 4))
          · rw [hc] at hv
            rw [if_neg (by first | exact ne_true_of_eq_false hc | decide)]
            have hv : ports8 (cL (el g.N i) 5) = res := hv
            by_cases h8 : 8 < ((cL (el g.N i) 5).length : Int)
            · rw [ports8, if_pos h8] at hv
              rw [if_pos (by exact dec_t h8), ← hv]
            · rw [ports8, if_neg h8] at hv
              rw [if_neg (by exact dec_f h8), ← hv]
          · rw [hc] at hv
            rw [if_pos (by first | exact hc | rfl), ← hv]; rfl
end Go.Proofs.Ytjdhicmkkmfcgaa.rv
