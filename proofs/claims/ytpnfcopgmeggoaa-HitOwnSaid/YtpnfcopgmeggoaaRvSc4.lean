/-
  Paths and texts: what is valid, bounds.
-/
import Derived.Test.YtpnfcopgmeggoaaRvTab
namespace Go.Proofs.Ytpnfcopgmeggoaa.rv
open Go.RV

/-! ### function values -/
theorem fn58_eq (a b : D) : fn58 [a, b] = [.b (!ptB a.int b.int)] := by
  simp only [fn58, vt58, VT.val, X.outs, X.ds, X.d, Op1.ev, takeD_zero, takeD_cons, List.cons_append, List.nil_append, List.getD_cons_zero, List.getD_cons_succ, D.bool_b, show T58 23 = fn23 from rfl, fn23_eq]
theorem m20025 : Meets Try.prog 20025 S20025 (R 20025) (F 20025) := by
  refine meets_dyn (by decide) rfl fun d ds hf hp => ?_
  obtain ⟨a, b, e⟩ : dpPt 58 (d :: ds) := hp
  cases e
  exact ⟨58, [], [], S58, _, fn58, rfl, by decide, m58, rfl, rfl, trivial, fn58_eq a b⟩
theorem fn68_eq (a : D) : fn68 [a] = [.b (decide (a.int < 32) || decide (126 < a.int))] := by
  simp only [fn68, vt68, VT.val, X.ds, X.d, Op2.ev, List.getD_cons_zero, D.int_i, D.bool_b, ite_b, ite_or]
theorem m20006 : Meets Try.prog 20006 S20006 (R 20006) (F 20006) := by
  refine meets_dyn (by decide) rfl fun d ds hf hp => ?_
  obtain ⟨a, e⟩ : dpBy 68 (d :: ds) := hp
  cases e
  exact ⟨68, [], [], S68, _, fn68, rfl, by decide, m68, rfl, rfl, trivial, fn68_eq a⟩
theorem loopM66_0 : LoopMeets Try.prog F (R L66_0.key) L66_0 lb66_0 := by
  refine loop_meets (pre := R) mixed (sgAt_all (P := Try.prog) (pre := R) (Φ := F) (l := sg66) (List.forall_mem_cons.2 ⟨Meets.at (pre := R) (Φ := F) m20025, (fun _ h => nomatch h)⟩)) (loops_n 0 lk66_0 fun k hk => by omega) L66_0 (fun ρ => ((ρ.getD 3 default).int - (ρ.getD 4 default).int).toNat) le66_0 fun ρ _ hq => ?_
  obtain ⟨xs, c, v, j, rfl, hj, hm, hp⟩ : ixPr (dpPt 58) 2 ρ := hq
  rw [maxLen_val] at hm
  by_cases hlt : j < xs.length
  · simp (disch := omega) only [rt66_0, VT.ok, Nd.holds, X.outs, X.ds, X.d, Op1.ev, Op2.ev, List.cons_append, List.nil_append, List.getD_cons_zero, List.getD_cons_succ, D.int_i, D.bool_b, D.lst_l, Int.toNat_natCast, implies_true, true_and, takeD1_0, F20025, R20025, ↓reduceIte, dle_t, dlt_t, w64']
    refine ⟨fun _ => hp j hlt, ?_⟩
    show if ((dyPt (c :: cellsN 2 (el xs j))).getD 0 default).bool = true then _ else _
    cases hb : ((dyPt (c :: cellsN 2 (el xs j))).getD 0 default).bool
    · simp only [Bool.false_eq_true, if_false]
      refine round_next ⟨⟨xs, c, v, j + 1, rfl, by omega, hm, hp⟩, ?_, ?_⟩
      · show ((xs.length : Int) - ((j + 1 : Nat) : Int)).toNat < ((xs.length : Int) - (j : Int)).toNat
        omega
      · show ixLp dyPt 2 [.l xs, c, v, .i (xs.length : Int), .i ((j + 1 : Nat) : Int)] = ixLp dyPt 2 [.l xs, c, v, .i (xs.length : Int), .i (j : Int)]
        simp only [ixLp, Int.toNat_natCast]
        exact scan_next hlt hb
    · simp only [if_true]
      refine round_exit (by omega) ?_
      show ixLp dyPt 2 [.l xs, c, v, .i (xs.length : Int), .i (j : Int)] = _
      simp only [ixLp, Int.toNat_natCast]
      exact scan_hit hlt hb
  · have hj' : j = xs.length := by omega
    subst hj'
    simp (disch := omega) only [rt66_0, VT.ok, X.ds, X.d, Op2.ev, List.getD_cons_zero, List.getD_cons_succ, D.int_i, D.bool_b, Bool.false_eq_true, ↓reduceIte, dlt_f]
    refine round_exit (by omega) ?_
    show ixLp dyPt 2 [.l xs, c, v, .i (xs.length : Int), .i (xs.length : Int)] = _
    simp only [ixLp, Int.toNat_natCast]
    exact scan_end
theorem m66 : Meets Try.prog 66 S66 (R 66) (F 66) := by
  refine meets_of_vt (pre := R) (Φ := F) mixed (sgAt_all (P := Try.prog) (pre := R) (Φ := F) (l := sg66) (List.forall_mem_cons.2 ⟨Meets.at (pre := R) (Φ := F) m20025, (fun _ h => nomatch h)⟩)) Try.func66 b66 n66 (loops_n 1 k66 fun k hk => match k, hk with | 0, _ => loop_this lf66_0 loopM66_0) e66 fun ds hf hq => ?_
  obtain ⟨x, c, rfl, hx, _⟩ := fits2 hf.flat
  obtain ⟨xs, rfl, hm, _⟩ := wf_sl hx
  have hq : ∀ i, i < xs.length → (dpPt 58) (c :: cellsN 2 (el xs i)) := hq
  have hpre : ixPr (dpPt 58) 2 [.l xs, c, .i 0, .i (xs.length : Int), .i 0] := ⟨xs, c, .i 0, 0, rfl, by omega, hm, hq⟩
  simp only [vt66, VT.ok, Nd.holds, X.outs, X.ds, X.d, Op1.ev, Op2.ev, List.cons_append, List.nil_append, List.getD_cons_zero, List.getD_cons_succ, D.int_i, D.bool_b, D.lst_l, F16600, R16600, F66]
  refine ⟨fun _ => hpre, ?_⟩
  simp only [ixLp, ixFn, Int.toNat_zero, Nat.sub_zero, scan_fs, ixI, cL, List.getD_cons_zero, List.getD_cons_succ, D.lst_l]
  split <;> rfl
theorem loopM69_0 : LoopMeets Try.prog F (R L69_0.key) L69_0 lb69_0 := by
  refine loop_meets (pre := R) mixed (sgAt_all (P := Try.prog) (pre := R) (Φ := F) (l := sg69) (List.forall_mem_cons.2 ⟨Meets.at (pre := R) (Φ := F) m20006, (fun _ h => nomatch h)⟩)) (loops_n 0 lk69_0 fun k hk => by omega) L69_0 (fun ρ => ((ρ.getD 3 default).int - (ρ.getD 4 default).int).toNat) le69_0 fun ρ _ hq => ?_
  obtain ⟨xs, c, v, j, rfl, hj, hm, hp⟩ : ixPr (dpBy 68) 1 ρ := hq
  rw [maxLen_val] at hm
  by_cases hlt : j < xs.length
  · simp (disch := omega) only [rt69_0, VT.ok, Nd.holds, X.outs, X.ds, X.d, Op1.ev, Op2.ev, List.cons_append, List.nil_append, List.getD_cons_zero, List.getD_cons_succ, D.int_i, D.bool_b, D.lst_l, Int.toNat_natCast, implies_true, true_and, takeD1_0, F20006, R20006, ↓reduceIte, dle_t, dlt_t, w64']
    refine ⟨fun _ => hp j hlt, ?_⟩
    show if ((dyBy (c :: cellsN 1 (el xs j))).getD 0 default).bool = true then _ else _
    cases hb : ((dyBy (c :: cellsN 1 (el xs j))).getD 0 default).bool
    · simp only [Bool.false_eq_true, if_false]
      refine round_next ⟨⟨xs, c, v, j + 1, rfl, by omega, hm, hp⟩, ?_, ?_⟩
      · show ((xs.length : Int) - ((j + 1 : Nat) : Int)).toNat < ((xs.length : Int) - (j : Int)).toNat
        omega
      · show ixLp dyBy 1 [.l xs, c, v, .i (xs.length : Int), .i ((j + 1 : Nat) : Int)] = ixLp dyBy 1 [.l xs, c, v, .i (xs.length : Int), .i (j : Int)]
        simp only [ixLp, Int.toNat_natCast]
        exact scan_next hlt hb
    · simp only [if_true]
      refine round_exit (by omega) ?_
      show ixLp dyBy 1 [.l xs, c, v, .i (xs.length : Int), .i (j : Int)] = _
      simp only [ixLp, Int.toNat_natCast]
      exact scan_hit hlt hb
  · have hj' : j = xs.length := by omega
    subst hj'
    simp (disch := omega) only [rt69_0, VT.ok, X.ds, X.d, Op2.ev, List.getD_cons_zero, List.getD_cons_succ, D.int_i, D.bool_b, Bool.false_eq_true, ↓reduceIte, dlt_f]
    refine round_exit (by omega) ?_
    show ixLp dyBy 1 [.l xs, c, v, .i (xs.length : Int), .i (xs.length : Int)] = _
    simp only [ixLp, Int.toNat_natCast]
    exact scan_end
theorem m69 : Meets Try.prog 69 S69 (R 69) (F 69) := by
  refine meets_of_vt (pre := R) (Φ := F) mixed (sgAt_all (P := Try.prog) (pre := R) (Φ := F) (l := sg69) (List.forall_mem_cons.2 ⟨Meets.at (pre := R) (Φ := F) m20006, (fun _ h => nomatch h)⟩)) Try.func69 b69 n69 (loops_n 1 k69 fun k hk => match k, hk with | 0, _ => loop_this lf69_0 loopM69_0) e69 fun ds hf hq => ?_
  obtain ⟨x, c, rfl, hx, _⟩ := fits2 hf.flat
  obtain ⟨xs, rfl, hm, _⟩ := wf_sl hx
  have hq : ∀ i, i < xs.length → (dpBy 68) (c :: cellsN 1 (el xs i)) := hq
  have hpre : ixPr (dpBy 68) 1 [.l xs, c, .i 0, .i (xs.length : Int), .i 0] := ⟨xs, c, .i 0, 0, rfl, by omega, hm, hq⟩
  simp only [vt69, VT.ok, Nd.holds, X.outs, X.ds, X.d, Op1.ev, Op2.ev, List.cons_append, List.nil_append, List.getD_cons_zero, List.getD_cons_succ, D.int_i, D.bool_b, D.lst_l, F16900, R16900, F69]
  refine ⟨fun _ => hpre, ?_⟩
  simp only [ixLp, ixFn, Int.toNat_zero, Nat.sub_zero, scan_fs, ixI, cL, List.getD_cons_zero, List.getD_cons_succ, D.lst_l]
  split <;> rfl
theorem m57 : Meets Try.prog 57 S57 (R 57) (F 57) := by
  refine meets_of_vt (pre := R) (Φ := F) mixed (sgAt_all (P := Try.prog) (pre := R) (Φ := F) (l := sg57) (List.forall_mem_cons.2 ⟨Meets.at (pre := R) (Φ := F) m66, (fun _ h => nomatch h)⟩)) Try.func57 b57 n57 (loops_n 0 k57 fun k hk => by omega) e57 fun ds hf hq => ?_
  obtain ⟨x, c, rfl, hx, _⟩ := fits2 hf.flat
  simp only [vt57, VT.ok, Nd.holds, X.outs, X.ds, X.d, Op2.ev, takeD_zero, takeD_cons, List.cons_append, List.nil_append, List.getD_cons_zero, List.getD_cons_succ, D.int_i, D.bool_b, and_true, F66, R66, F57, ixFn, cfFn, ixI_any]
  exact fun _ => hq
theorem m67 : Meets Try.prog 67 S67 (R 67) (F 67) := by
  refine meets_of_vt (pre := R) (Φ := F) mixed (sgAt_all (P := Try.prog) (pre := R) (Φ := F) (l := sg67) (List.forall_mem_cons.2 ⟨Meets.at (pre := R) (Φ := F) m69, (fun _ h => nomatch h)⟩)) Try.func67 b67 n67 (loops_n 0 k67 fun k hk => by omega) e67 fun ds hf hq => ?_
  obtain ⟨x, c, rfl, hx, _⟩ := fits2 hf.flat
  simp only [vt67, VT.ok, Nd.holds, X.outs, X.ds, X.d, Op2.ev, takeD_zero, takeD_cons, List.cons_append, List.nil_append, List.getD_cons_zero, List.getD_cons_succ, D.int_i, D.bool_b, and_true, F69, R69, F67, ixFn, cfFn, ixI_any]
  exact fun _ => hq

/-! ### paths -/
theorem loopM42_0 : LoopMeets Try.prog F (R L42_0.key) L42_0 lb42_0 := by
  refine loop_meets (pre := R) mixed (sgAt_all (P := Try.prog) (pre := R) (Φ := F) (l := sg42) ((fun _ h => nomatch h))) (loops_n 0 lk42_0 fun k hk => by omega) L42_0 (fun ρ => (((n1 (ρ.getD 0 default).lst.length : Nat) : Int) - (ρ.getD 2 default).int).toNat) le42_0 fun ρ _ hq => ?_
  obtain ⟨xs, v, j, rfl, hj, hm⟩ : prDis ρ := hq
  rw [maxLen_val] at hm
  have hn : n1 xs.length = max xs.length 1 := rfl
  by_cases hlt : j < n1 xs.length
  · simp (disch := omega) only [rt42_0, VT.ok, Nd.holds, X.ds, X.d, Op1.ev, Op2.ev, List.getD_cons_zero, List.getD_cons_succ, D.int_i, D.bool_b, D.lst_l, ite_b, ite_and, Int.toNat_natCast, implies_true, true_and, ↓reduceIte, dle_t, dlt_t, w64', pred_nat]
    have e : ((pX xs (j - 1) == pX xs j) && (pY xs (j - 1) == pY xs j)) = dupP xs j := by
      unfold dupP
      rw [decide_eq_true (by omega), Bool.true_and, Bool.beq_comm (a := pX xs (j - 1)), Bool.beq_comm (a := pY xs (j - 1))]
    show if ((pX xs (j - 1) == pX xs j) && (pY xs (j - 1) == pY xs j)) = true then _ else _
    rw [e]
    show if dupP xs j = true then _ else _
    cases hb : dupP xs j
    · simp only [Bool.false_eq_true, if_false]
      refine round_next ⟨⟨xs, v, j + 1, rfl, by omega, hm⟩, ?_, ?_⟩
      · show ((n1 xs.length : Int) - ((j + 1 : Nat) : Int)).toNat < ((n1 xs.length : Int) - (j : Int)).toNat
        omega
      · show lpDis [.l xs, v, .i ((j + 1 : Nat) : Int)] = lpDis [.l xs, v, .i (j : Int)]
        simp only [lpDis, Int.toNat_natCast]
        exact scan_next hlt hb
    · simp only [if_true]
      refine round_exit (by omega) ?_
      show lpDis [.l xs, v, .i (j : Int)] = _
      simp only [lpDis, Int.toNat_natCast]
      exact scan_hit hlt hb
  · have hj' : j = n1 xs.length := by omega
    subst hj'
    simp (disch := omega) only [rt42_0, VT.ok, X.ds, X.d, Op1.ev, Op2.ev, List.getD_cons_zero, List.getD_cons_succ, D.int_i, D.bool_b, D.lst_l, Bool.false_eq_true, ↓reduceIte, dlt_f]
    refine round_exit (by omega) ?_
    show lpDis [.l xs, v, .i (n1 xs.length : Int)] = _
    simp only [lpDis, Int.toNat_natCast]
    exact scan_end
theorem m42 : Meets Try.prog 42 S42 (R 42) (F 42) := by
  refine meets_of_vt (pre := R) (Φ := F) mixed (sgAt_all (P := Try.prog) (pre := R) (Φ := F) (l := sg42) ((fun _ h => nomatch h))) Try.func42 b42 n42 (loops_n 1 k42 fun k hk => match k, hk with | 0, _ => loop_this lf42_0 loopM42_0) e42 fun ds hf _ => ?_
  obtain ⟨x, rfl, hx⟩ := fits1 hf.flat
  obtain ⟨xs, rfl, hm, _⟩ := wf_sl hx
  have hpre : prDis [.l xs, .b false, .i 1] := ⟨xs, _, 1, rfl, ⟨by omega, (by unfold n1; omega)⟩, hm⟩
  simp only [vt42, VT.ok, Nd.holds, X.outs, X.ds, X.d, Op2.ev, List.cons_append, List.nil_append, List.getD_cons_zero, List.getD_cons_succ, D.int_i, D.bool_b, F14200, R14200, F42]
  refine ⟨fun _ => hpre, ?_⟩
  simp only [lpDis, disD, cL, List.getD_cons_zero, D.lst_l]
  have hn : n1 xs.length = max xs.length 1 := rfl
  have h0 : ∀ j, j < 1 → dupP xs j = false := fun j hj => by rw [show j = 0 by omega]; rfl
  rw [show Int.toNat 1 = 1 from rfl]
  rcases any_scan (p := dupP xs) (hit := fun j => [D.i 0, .b false, .i (j : Int)]) (miss := fun j => [D.i 1, .b false, .i (j : Int)]) (n := n1 xs.length) (i := 1) h0 (by omega) with ⟨h1, j, h2, h3, h4, _, h6⟩ | ⟨h1, h2⟩
  · have hj : j < xs.length := by omega
    have e : anyN (dupP xs) xs.length = true := anyN_iff.2 ⟨j, hj, h4⟩
    rw [h6, e]; rfl
  · have e : anyN (dupP xs) xs.length = false := anyN_false.2 fun j hj => anyN_false.1 h1 j (by omega)
    rw [h2, e]; rfl
theorem m43 : Meets Try.prog 43 S43 (R 43) (F 43) := by
  refine meets_of_vt (pre := R) (Φ := F) mixed (sgAt_all (P := Try.prog) (pre := R) (Φ := F) (l := sg43) (List.forall_mem_cons.2 ⟨Meets.at (pre := R) (Φ := F) m57, (fun _ h => nomatch h)⟩)) Try.func43 b43 n43 (loops_n 0 k43 fun k hk => by omega) e43 fun ds hf _ => ?_
  obtain ⟨x, rfl, hx⟩ := fits1 hf.flat
  obtain ⟨xs, rfl, hm, _⟩ := wf_sl hx
  simp only [vt43, VT.ok, Nd.holds, X.outs, X.ds, X.d, Op1.ev, Op2.ev, List.cons_append, List.nil_append, List.getD_cons_zero, List.getD_cons_succ, D.int_i, D.bool_b, D.lst_l, ite_b, ite_and, takeD1_0, F57, R57, F43]
  exact ⟨fun _ i _ => ⟨_, _, rfl⟩, rfl⟩
theorem m22 : Meets Try.prog 22 S22 (R 22) (F 22) := by
  refine meets_of_vt (pre := R) (Φ := F) mixed (sgAt_all (P := Try.prog) (pre := R) (Φ := F) (l := sg22) (List.forall_mem_cons.2 ⟨Meets.at (pre := R) (Φ := F) m42, List.forall_mem_cons.2 ⟨Meets.at (pre := R) (Φ := F) m43, (fun _ h => nomatch h)⟩⟩)) Try.func22 b22 n22 (loops_n 0 k22 fun k hk => by omega) e22 fun ds hf _ => ?_
  obtain ⟨x, rfl, hx⟩ := fits1 hf.flat
  obtain ⟨xs, rfl, hm, _⟩ := wf_sl hx
  simp only [vt22, VT.ok, Nd.holds, X.outs, X.ds, X.d, takeD_zero, takeD_cons, List.cons_append, List.nil_append, List.getD_cons_zero, List.getD_cons_succ, D.bool_b, D.lst_l, ite_b, ite_and, implies_true, and_true, F42, R42, F43, R43, F22, disD, ptsD, pathD, cL, path_two]
theorem loopM21_0 : LoopMeets Try.prog F (R L21_0.key) L21_0 lb21_0 := by
  refine loop_meets (pre := R) mixed (sgAt_all (P := Try.prog) (pre := R) (Φ := F) (l := sg21) (List.forall_mem_cons.2 ⟨Meets.at (pre := R) (Φ := F) m41, (fun _ h => nomatch h)⟩)) (loops_n 0 lk21_0 fun k hk => by omega) L21_0 (fun ρ => (((ρ.getD 0 default).lst.length : Int) - (ρ.getD 2 default).int).toNat) le21_0 fun ρ _ hq => ?_
  obtain ⟨xs, v, j, rfl, hj, hm⟩ : prPa ρ := hq
  rw [maxLen_val] at hm
  by_cases hlt : j < xs.length
  · simp (disch := omega) only [rt21_0, VT.ok, Nd.holds, X.outs, X.ds, X.d, Op1.ev, Op2.ev, takeD_zero, takeD_cons, List.cons_append, List.nil_append, List.getD_cons_zero, List.getD_cons_succ, D.int_i, D.bool_b, D.lst_l, ite_b, ite_or, ite_and, Int.toNat_natCast, implies_true, true_and, F41, R41, ↓reduceIte, dle_t, dlt_t, w64', fn41_eq, prd]
    have g1 : ((ptB ((xs.getD j []).getD 0 default).int ((xs.getD j []).getD 1 default).int && decide (0 < (j : Int))) = true → decide (0 ≤ (j : Int) - 1) = true) := fun h => by
      simp only [Bool.and_eq_true, decide_eq_true_eq] at h ⊢
      omega
    refine ⟨g1, ?_⟩
    show if (badP xs j || dupP xs j) = true then _ else _
    cases hb : (badP xs j || dupP xs j)
    · simp only [Bool.false_eq_true, if_false]
      refine round_next ⟨⟨xs, v, j + 1, rfl, by omega, hm⟩, ?_, ?_⟩
      · show ((xs.length : Int) - ((j + 1 : Nat) : Int)).toNat < ((xs.length : Int) - (j : Int)).toNat
        omega
      · show lpPa [.l xs, v, .i ((j + 1 : Nat) : Int)] = lpPa [.l xs, v, .i (j : Int)]
        simp only [lpPa, Int.toNat_natCast]
        exact scan_next hlt hb
    · simp only [if_true]
      refine round_exit (by omega) ?_
      show lpPa [.l xs, v, .i (j : Int)] = _
      simp only [lpPa, Int.toNat_natCast]
      exact scan_hit hlt hb
  · have hj' : j = xs.length := by omega
    subst hj'
    simp (disch := omega) only [rt21_0, VT.ok, X.ds, X.d, Op1.ev, Op2.ev, List.getD_cons_zero, List.getD_cons_succ, D.int_i, D.bool_b, D.lst_l, Bool.false_eq_true, ↓reduceIte, dlt_f]
    refine round_exit (by omega) ?_
    show lpPa [.l xs, v, .i (xs.length : Int)] = _
    simp only [lpPa, Int.toNat_natCast]
    exact scan_end
theorem m21 : Meets Try.prog 21 S21 (R 21) (F 21) := by
  refine meets_of_vt (pre := R) (Φ := F) mixed (sgAt_all (P := Try.prog) (pre := R) (Φ := F) (l := sg21) (List.forall_mem_cons.2 ⟨Meets.at (pre := R) (Φ := F) m41, (fun _ h => nomatch h)⟩)) Try.func21 b21 n21 (loops_n 1 k21 fun k hk => match k, hk with | 0, _ => loop_this lf21_0 loopM21_0) e21 fun ds hf _ => ?_
  obtain ⟨x, rfl, hx⟩ := fits1 hf.flat
  obtain ⟨xs, rfl, hm, _⟩ := wf_sl hx
  have hpre : prPa [.l xs, .b false, .i 0] := ⟨xs, _, 0, rfl, by omega, hm⟩
  by_cases hl : 1 ≤ xs.length ∧ xs.length ≤ 512
  · simp (disch := omega) only [vt21, VT.ok, Nd.holds, X.outs, X.ds, X.d, Op1.ev, Op2.ev, List.cons_append, List.nil_append, List.getD_cons_zero, List.getD_cons_succ, D.int_i, D.bool_b, D.lst_l, Bool.false_eq_true, F12100, R12100, F21, ↓reduceIte, dle_t, dlt_f, pathD, pathB, cL, Bool.true_and]
    refine ⟨fun _ => hpre, ?_⟩
    simp only [lpPa, Int.toNat_zero, Nat.sub_zero]
    rcases scan_two (p := fun j => badP xs j || dupP xs j) xs.length with ⟨h1, j, _, _, _, h⟩ | ⟨h1, h⟩
    · simp only [h, h1]; rfl
    · simp only [h, h1]; rfl
  · have hc : (decide ((xs.length : Int) < 1) || decide (512 < (xs.length : Int))) = true := by
      rw [Bool.or_eq_true, decide_eq_true_eq, decide_eq_true_eq]; omega
    have hd : (decide (1 ≤ (xs.length : Int)) && decide ((xs.length : Int) ≤ 512)) = false := by
      rw [Bool.and_eq_false_iff, decide_eq_false_iff_not, decide_eq_false_iff_not]; omega
    simp only [vt21, VT.ok, Nd.holds, X.outs, X.ds, X.d, Op1.ev, Op2.ev, List.cons_append, List.nil_append, List.getD_cons_zero, List.getD_cons_succ, D.int_i, D.bool_b, D.lst_l, ite_b, ite_or, if_true, F12100, R12100, F21, hc, pathD, pathB, cL, hd, Bool.false_and]

/-! ### bounds -/
theorem cells2 {xs : List (List D)} (h : ptsy xs) (h0 : 0 < xs.length) : (xs.getD (Int.toNat 0) []).getD 0 default = .i (pX xs 0) ∧ (xs.getD (Int.toNat 0) []).getD 1 default = .i (pY xs 0) := h 0 h0
theorem loopM36_0 : LoopMeets Try.prog F (R L36_0.key) L36_0 lb36_0 := by
  refine loop_meets (pre := R) mixed (sgAt_all (P := Try.prog) (pre := R) (Φ := F) (l := sg36) (List.forall_mem_cons.2 ⟨Meets.at (pre := R) (Φ := F) m22, (fun _ h => nomatch h)⟩)) (loops_n 0 lk36_0 fun k hk => by omega) L36_0 (fun ρ => ((ρ.getD 1 default).int - (ρ.getD 2 default).int).toNat) le36_0 fun ρ _ hq => ?_
  obtain ⟨xs, a, b, c, d, j, rfl, hj, hm⟩ : prBn ρ := hq
  rw [maxLen_val] at hm
  by_cases hlt : j < xs.length
  · simp (disch := omega) only [rt36_0, VT.ok, Nd.holds, X.ds, X.d, Op1.ev, Op2.ev, List.getD_cons_zero, List.getD_cons_succ, D.int_i, D.bool_b, D.lst_l, imin, imax, Int.toNat_natCast, implies_true, true_and, ↓reduceIte, dle_t, dlt_t, w64']
    refine round_next ⟨⟨xs, _, _, _, _, j + 1, rfl, by omega, hm⟩, ?_, ?_⟩
    · show ((xs.length : Int) - ((j + 1 : Nat) : Int)).toNat < ((xs.length : Int) - (j : Int)).toNat
      omega
    · show lpBn [.l xs, .i (xs.length : Int), .i ((j + 1 : Nat) : Int), .i (min a (pX xs j)), .i (min b (pY xs j)), .i (max c (pX xs j)), .i (max d (pY xs j))] = lpBn [.l xs, .i (xs.length : Int), .i (j : Int), .i a, .i b, .i c, .i d]
      simp only [lpBn, Int.toNat_natCast, growN]
      rw [fold_next (i := j) hlt]
      rfl
  · have hj' : j = xs.length := by omega
    subst hj'
    simp (disch := omega) only [rt36_0, VT.ok, X.ds, X.d, Op2.ev, List.getD_cons_zero, List.getD_cons_succ, D.int_i, D.bool_b, Bool.false_eq_true, ↓reduceIte, dlt_f]
    refine round_exit (by omega) ?_
    show lpBn [.l xs, .i (xs.length : Int), .i (xs.length : Int), .i a, .i b, .i c, .i d] = _
    simp only [lpBn, Int.toNat_natCast, growN, fold_end]
    rfl
theorem m36 : Meets Try.prog 36 S36 (R 36) (F 36) := by
  refine meets_of_vt (pre := R) (Φ := F) mixed (sgAt_all (P := Try.prog) (pre := R) (Φ := F) (l := sg36) (List.forall_mem_cons.2 ⟨Meets.at (pre := R) (Φ := F) m22, (fun _ h => nomatch h)⟩)) Try.func36 b36 n36 (loops_n 1 k36 fun k hk => match k, hk with | 0, _ => loop_this lf36_0 loopM36_0) e36 fun ds hf _ => ?_
  obtain ⟨x, rfl, hx⟩ := fits1 hf.flat
  obtain ⟨xs, rfl, hm, hfx⟩ := wf_sl hx
  have hp := ptsy_of hfx
  cases hb : pathB xs
  · simp (disch := omega) only [vt36, VT.ok, Nd.holds, X.outs, X.ds, X.d, Op1.ev, Op2.ev, takeD_zero, takeD_cons, List.cons_append, List.nil_append, List.getD_cons_zero, List.getD_cons_succ, D.int_i, D.bool_b, D.lst_l, if_true, Bool.false_eq_true, if_false, implies_true, and_true, F22, R22, F13600, R13600, F36, pathD, cL, hb, Bool.not_false, bndD, bndQ, dQ]
  · obtain ⟨h1, h2, h3, h4⟩ := pathB_iff.1 hb
    obtain ⟨e1, e2⟩ := cells2 hp h1
    have hpre : prBn [.l xs, .i (xs.length : Int), .i 0, .i (pX xs 0), .i (pY xs 0), .i (pX xs 0), .i (pY xs 0)] := ⟨xs, _, _, _, _, 0, rfl, by omega, hm⟩
    simp (disch := omega) only [vt36, VT.ok, Nd.holds, X.outs, X.ds, X.d, Op1.ev, Op2.ev, takeD_zero, takeD_cons, List.cons_append, List.nil_append, List.getD_cons_zero, List.getD_cons_succ, D.int_i, D.bool_b, D.lst_l, Bool.false_eq_true, implies_true, true_and, F22, R22, F13600, R13600, F36, ↓reduceIte, dlt_t, pathD, cL, hb, Bool.not_true, bndD, bndQ, e1, e2, lpBn]
    refine ⟨fun _ => hpre, ?_⟩
    first | rfl | (show dQ (growN xs 1 (at0 xs)) = _; rw [growN_1 h1])
theorem loopM39_0 : LoopMeets Try.prog F (R L39_0.key) L39_0 lb39_0 := by
  refine loop_meets (pre := R) mixed (sgAt_all (P := Try.prog) (pre := R) (Φ := F) (l := sg39) (List.forall_mem_cons.2 ⟨Meets.at (pre := R) (Φ := F) m21, (fun _ h => nomatch h)⟩)) (loops_n 0 lk39_0 fun k hk => by omega) L39_0 (fun ρ => (((ρ.getD 0 default).lst.length : Int) - (ρ.getD 1 default).int).toNat) le39_0 fun ρ _ hq => ?_
  obtain ⟨xs, a, b, c, d, j, rfl, hj, hm⟩ : prBr ρ := hq
  rw [maxLen_val] at hm
  by_cases hlt : j < xs.length
  · simp (disch := omega) only [rt39_0, VT.ok, Nd.holds, X.ds, X.d, Op1.ev, Op2.ev, List.getD_cons_zero, List.getD_cons_succ, D.int_i, D.bool_b, D.lst_l, imin, imax, Int.toNat_natCast, implies_true, true_and, ↓reduceIte, dle_t, dlt_t, w64']
    refine round_next ⟨⟨xs, _, _, _, _, j + 1, rfl, by omega, hm⟩, ?_, ?_⟩
    · show ((xs.length : Int) - ((j + 1 : Nat) : Int)).toNat < ((xs.length : Int) - (j : Int)).toNat
      omega
    · show lpBr [.l xs,  .i ((j + 1 : Nat) : Int), .i (min a (pX xs j)), .i (min b (pY xs j)), .i (max c (pX xs j)), .i (max d (pY xs j))] = lpBr [.l xs,  .i (j : Int), .i a, .i b, .i c, .i d]
      simp only [lpBr, Int.toNat_natCast, growN]
      rw [fold_next (i := j) hlt]
      rfl
  · have hj' : j = xs.length := by omega
    subst hj'
    simp (disch := omega) only [rt39_0, VT.ok, X.ds, X.d, Op1.ev, Op2.ev, List.getD_cons_zero, List.getD_cons_succ, D.int_i, D.bool_b, D.lst_l, Bool.false_eq_true, ↓reduceIte, dlt_f]
    refine round_exit (by omega) ?_
    show lpBr [.l xs,  .i (xs.length : Int), .i a, .i b, .i c, .i d] = _
    simp only [lpBr, Int.toNat_natCast, growN, fold_end]
    rfl
theorem m39 : Meets Try.prog 39 S39 (R 39) (F 39) := by
  refine meets_of_vt (pre := R) (Φ := F) mixed (sgAt_all (P := Try.prog) (pre := R) (Φ := F) (l := sg39) (List.forall_mem_cons.2 ⟨Meets.at (pre := R) (Φ := F) m21, (fun _ h => nomatch h)⟩)) Try.func39 b39 n39 (loops_n 1 k39 fun k hk => match k, hk with | 0, _ => loop_this lf39_0 loopM39_0) e39 fun ds hf _ => ?_
  obtain ⟨x, rfl, hx⟩ := fits1 hf.flat
  obtain ⟨xs, rfl, hm, hfx⟩ := wf_sl hx
  have hp := ptsy_of hfx
  cases hb : pathB xs
  · simp (disch := omega) only [vt39, VT.ok, Nd.holds, X.outs, X.ds, X.d, Op1.ev, Op2.ev, takeD_zero, takeD_cons, List.cons_append, List.nil_append, List.getD_cons_zero, List.getD_cons_succ, D.int_i, D.bool_b, D.lst_l, if_true, Bool.false_eq_true, if_false, implies_true, and_true, F21, R21, F13900, R13900, F39, pathD, cL, hb, Bool.not_false, bndD, bndQ, dQ]
  · obtain ⟨h1, h2, h3, h4⟩ := pathB_iff.1 hb
    obtain ⟨e1, e2⟩ := cells2 hp h1
    have hpre : prBr [.l xs,  .i 1, .i (pX xs 0), .i (pY xs 0), .i (pX xs 0), .i (pY xs 0)] := ⟨xs, _, _, _, _, 1, rfl, by omega, hm⟩
    simp (disch := omega) only [vt39, VT.ok, Nd.holds, X.outs, X.ds, X.d, Op1.ev, Op2.ev, takeD_zero, takeD_cons, List.cons_append, List.nil_append, List.getD_cons_zero, List.getD_cons_succ, D.int_i, D.bool_b, D.lst_l, Bool.false_eq_true, implies_true, true_and, F21, R21, F13900, R13900, F39, ↓reduceIte, dlt_t, pathD, cL, hb, Bool.not_true, bndD, bndQ, e1, e2, lpBr]
    refine ⟨fun _ => hpre, ?_⟩
    first | rfl | (show dQ (growN xs 1 (at0 xs)) = _; rw [growN_1 h1])

/-! ### texts -/
theorem byte_row' (s : ByteArray) {j : Nat} (h : j < s.size) : cI (el (s.data.toList.map fun b => [D.i (b.toNat : Int)]) j) 0 = bt s j := by
  have hd : j < s.data.size := h
  have e : s[j]? = some s.data[j] := by
    rw [getElem?_pos s j h]; rfl
  simp only [el, cI, bt, List.getD, List.getElem?_map, Array.getElem?_toList, Array.getElem?_eq_getElem hd, Option.map_some, Option.getD_some, e, List.getElem?_cons_zero]
  rfl
theorem m64 : Meets Try.prog 64 S64 (R 64) (F 64) := by
  refine meets_of_vt (pre := R) (Φ := F) mixed (sgAt_all (P := Try.prog) (pre := R) (Φ := F) (l := sg64) (List.forall_mem_cons.2 ⟨Meets.at (pre := R) (Φ := F) m67, (fun _ h => nomatch h)⟩)) Try.func64 b64 n64 (loops_n 0 k64 fun k hk => by omega) e64 fun ds hf _ => ?_
  obtain ⟨x, rfl, hx⟩ := fits1 hf.flat
  obtain ⟨s, rfl, hs⟩ := wf_str hx
  have hlen : (s.data.toList.map fun b => [D.i (b.toNat : Int)]).length = s.size := by simp
  have hany : anyN (fun j => decide (cI (el (s.data.toList.map fun b => [D.i (b.toNat : Int)]) j) 0 < 32) || decide (126 < cI (el (s.data.toList.map fun b => [D.i (b.toNat : Int)]) j) 0)) s.size = anyN (lblP s) s.size := anyN_congr fun k hk => by
    rw [byte_row' s hk]; rfl
  simp only [vt64, VT.ok, Nd.holds, X.outs, X.ds, X.d, Op1.ev, takeD_zero, takeD_cons, List.cons_append, List.nil_append, List.getD_cons_zero, List.getD_cons_succ, D.bool_b, D.lst_l, D.str_s, F67, R67, F64, cfFn, plainD, plainB, cS, cL, hlen]
  refine ⟨fun _ i _ => ⟨_, rfl⟩, ?_⟩
  rw [← hany]
  rfl
end Go.Proofs.Ytpnfcopgmeggoaa.rv
