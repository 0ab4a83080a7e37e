/-
  Radial drawings: angles of the same ring are apart.
-/
import Derived.Test.YtdehhmcfhaeheaaRvRad16
namespace Go.Proofs.Ytdehhmcfhaeheaa.rv
open Go.RV

theorem beq_tf (a b : Int) : (a == b) = decide (a = b) := rfl
theorem loopM6_1 : LoopMeets Try.prog F (R L6_1.key) L6_1 lb6_1 := by
  refine loop_meets (pre := R) mixed (sgAt_all (P := Try.prog) (pre := R) (Φ := F) (l := sg6) (List.forall_mem_cons.2 ⟨Meets.at (pre := R) (Φ := F) m19, List.forall_mem_cons.2 ⟨Meets.at (pre := R) (Φ := F) m8, List.forall_mem_cons.2 ⟨Meets.at (pre := R) (Φ := F) m12, List.forall_mem_cons.2 ⟨Meets.at (pre := R) (Φ := F) m9, List.forall_mem_cons.2 ⟨Meets.at (pre := R) (Φ := F) m20, (fun _ h => nomatch h)⟩⟩⟩⟩⟩)) (loops_n 0 lk6_1 fun k hk => by omega) L6_1 (fun ρ => ((ρ.getD 2 default).int - (ρ.getD 8 default).int).toNat) le6_1 fun ρ _ hq => ?_
  obtain ⟨p, v, i, u, rfl, hp, hi, hu⟩ : pr6b ρ := hq
  have h64 := hp.1
  have hlL : (Lrow p).length = p.length := rowF_len
  have hlA : (Arow p).length = p.length := rowF_len
  have hlR : (Rrow p).length = p.length := rowF_len
  by_cases hlt : u < p.length
  · have hA : (Arow p).getD u 0 = ang p u := rowF_get 0 hlt
    have hR : (Rrow p).getD u 0 = rg p u := rowF_get 0 hlt
    have hLu : (Lrow p).getD u 0 = L p u := rowF_get 0 hlt
    have hAi : (Arow p).getD i 0 = ang p i := rowF_get 0 hi
    have hRi : (Rrow p).getD i 0 = rg p i := rowF_get 0 hi
    have hpu : (p.map encI).getD u [] = encI (par p u) := parI hlt
    have hLk := L_le hp _ u (Nat.le_refl _) hlt
    have hLp := L_pos p u
    have hBb := B_bd hp hi (k := u) (by omega)
    have ha1 := ang_bd hp hlt
    have ha2 := ang_bd hp hi
    have hN : ∀ x : Int, x = B p (i : Int) (u + 1) → RoundOk F (R L6_1.key) (fun ρ => ((ρ.getD 2 default).int - (ρ.getD 8 default).int).toNat) L6_1 [.l (p.map encI), v, .i (p.length : Int), .l ((Lrow p).map encI), .l ((Arow p).map encI), .l ((Rrow p).map encI), .i (i : Int), .i (B p (i : Int) u), .i (u : Int)] [.i (-1), v, .i x, .i ((u + 1 : Nat) : Int)] := by
      rintro x rfl
      refine round_next ⟨⟨p, v, i, u + 1, rfl, hp, hi, by omega⟩, ?_, rfl⟩
      show ((p.length : Int) - ((u + 1 : Nat) : Int)).toNat < ((p.length : Int) - (u : Int)).toNat
      omega
    have hs : ∀ x, par p u = i → x = B p (i : Int) u + L p u → x = B p (i : Int) (u + 1) := fun x h e => by rw [B_succ, ch, if_pos h, e]
    have hs' : par p u ≠ i → B p (i : Int) u = B p (i : Int) (u + 1) := fun h => by rw [B_succ, ch, if_neg h]; omega
    have hq0 : 0 ≤ 360 / (p.length : Int) ∧ 360 / (p.length : Int) ≤ 360 := ⟨Int.ediv_nonneg (by omega) (by omega), Int.ediv_le_self _ (by omega)⟩
    have hq1 : (p.length : Int) * (360 / (p.length : Int)) ≤ 360 := Int.mul_ediv_self_le (by omega)
    have hdiv : (360 : Int).tdiv (p.length : Int) = 360 / (p.length : Int) := tdivp (by omega)
    by_cases hc : par p u = i
    · by_cases hui : u = i
      · subst hui
        simp (disch := omega) only [rt6_1, VT.ok, Nd.holds, X.ds, X.d, Op1.ev, Op2.ev, List.getD_cons_zero, List.getD_cons_succ, D.int_i, D.bool_b, D.lst_l, Int.toNat_natCast, List.length_map, Bool.false_eq_true, implies_true, true_and, ↓reduceIte, dle_t, dlt_t, beq_t, w64', rowI, encI, hLu, hlL, hlR, hpu, Bool.not_true]
        exact hN _ (hs _ hc rfl)
      · by_cases hr : rg p u = rg p i
        · have hap := ang_apart hp hq0.1 hq1 hlt hi hui hr
          by_cases hd : ang p u - ang p i < 0
          · simp (disch := omega) only [rt6_1, VT.ok, Nd.holds, X.ds, X.d, Op1.ev, Op2.ev, List.getD_cons_zero, List.getD_cons_succ, D.int_i, D.bool_b, D.lst_l, Int.toNat_natCast, List.length_map, Bool.false_eq_true, implies_true, true_and, ↓reduceIte, dle_t, dlt_t, dlt_f, beq_t, beq_f, w64', rowI, encI, hA, hR, hLu, hAi, hRi, hlL, hlA, hlR, hpu, hdiv, Bool.not_false]
            exact hN _ (hs _ hc rfl)
          · simp (disch := omega) only [rt6_1, VT.ok, Nd.holds, X.ds, X.d, Op1.ev, Op2.ev, List.getD_cons_zero, List.getD_cons_succ, D.int_i, D.bool_b, D.lst_l, Int.toNat_natCast, List.length_map, Bool.false_eq_true, implies_true, true_and, ↓reduceIte, dle_t, dlt_t, dlt_f, beq_t, beq_f, w64', rowI, encI, hA, hR, hLu, hAi, hRi, hlL, hlA, hlR, hpu, hdiv, Bool.not_false]
            exact hN _ (hs _ hc rfl)
        · simp (disch := omega) only [rt6_1, VT.ok, Nd.holds, X.ds, X.d, Op1.ev, Op2.ev, List.getD_cons_zero, List.getD_cons_succ, D.int_i, D.bool_b, D.lst_l, Int.toNat_natCast, List.length_map, Bool.false_eq_true, implies_true, true_and, ↓reduceIte, dle_t, dlt_t, beq_t, beq_f, w64', rowI, encI, hR, hLu, hRi, hlL, hlR, hpu, Bool.not_false]
          exact hN _ (hs _ hc rfl)
    · by_cases hui : u = i
      · subst hui
        simp (disch := omega) only [rt6_1, VT.ok, Nd.holds, X.ds, X.d, Op1.ev, Op2.ev, List.getD_cons_zero, List.getD_cons_succ, D.int_i, D.bool_b, D.lst_l, Int.toNat_natCast, List.length_map, Bool.false_eq_true, implies_true, true_and, ↓reduceIte, dle_t, dlt_t, beq_t, beq_f, w64', encI, hlR, hpu, Bool.not_true]
        exact hN _ (hs' hc)
      · by_cases hr : rg p u = rg p i
        · have hap := ang_apart hp hq0.1 hq1 hlt hi hui hr
          by_cases hd : ang p u - ang p i < 0
          · simp (disch := omega) only [rt6_1, VT.ok, Nd.holds, X.ds, X.d, Op1.ev, Op2.ev, List.getD_cons_zero, List.getD_cons_succ, D.int_i, D.bool_b, D.lst_l, Int.toNat_natCast, List.length_map, Bool.false_eq_true, implies_true, true_and, ↓reduceIte, dle_t, dlt_t, dlt_f, beq_t, beq_f, w64', rowI, encI, hA, hR, hAi, hRi, hlA, hlR, hpu, hdiv, Bool.not_false]
            exact hN _ (hs' hc)
          · simp (disch := omega) only [rt6_1, VT.ok, Nd.holds, X.ds, X.d, Op1.ev, Op2.ev, List.getD_cons_zero, List.getD_cons_succ, D.int_i, D.bool_b, D.lst_l, Int.toNat_natCast, List.length_map, Bool.false_eq_true, implies_true, true_and, ↓reduceIte, dle_t, dlt_t, dlt_f, beq_t, beq_f, w64', rowI, encI, hA, hR, hAi, hRi, hlA, hlR, hpu, hdiv, Bool.not_false]
            exact hN _ (hs' hc)
        · simp (disch := omega) only [rt6_1, VT.ok, Nd.holds, X.ds, X.d, Op1.ev, Op2.ev, List.getD_cons_zero, List.getD_cons_succ, D.int_i, D.bool_b, D.lst_l, Int.toNat_natCast, List.length_map, Bool.false_eq_true, implies_true, true_and, ↓reduceIte, dle_t, dlt_t, beq_f, w64', rowI, encI, hR, hRi, hlR, hpu, Bool.not_false]
          exact hN _ (hs' hc)
  · have hj : u = p.length := by omega
    subst hj
    simp (disch := omega) only [rt6_1, VT.ok, X.ds, X.d, Op2.ev, List.getD_cons_zero, List.getD_cons_succ, D.int_i, D.bool_b, Bool.false_eq_true, ↓reduceIte, dlt_f]
    refine round_exit (by omega) ?_
    show lp6b [.l (p.map encI), v, .i (p.length : Int), .l ((Lrow p).map encI), .l ((Arow p).map encI), .l ((Rrow p).map encI), .i (i : Int), .i (B p (i : Int) p.length), .i (p.length : Int)] = _
    simp only [lp6b, dp_enc, B_all]
theorem loopM6_0 : LoopMeets Try.prog F (R L6_0.key) L6_0 lb6_0 := by
  refine loop_meets (pre := R) mixed (sgAt_all (P := Try.prog) (pre := R) (Φ := F) (l := sg6) (List.forall_mem_cons.2 ⟨Meets.at (pre := R) (Φ := F) m19, List.forall_mem_cons.2 ⟨Meets.at (pre := R) (Φ := F) m8, List.forall_mem_cons.2 ⟨Meets.at (pre := R) (Φ := F) m12, List.forall_mem_cons.2 ⟨Meets.at (pre := R) (Φ := F) m9, List.forall_mem_cons.2 ⟨Meets.at (pre := R) (Φ := F) m20, (fun _ h => nomatch h)⟩⟩⟩⟩⟩)) (loops_n 1 lk6_0 fun k hk => match k, hk with | 0, _ => by rw [li6_0_0]; exact loop_this lf6_1 loopM6_1) L6_0 (fun ρ => ((ρ.getD 2 default).int - (ρ.getD 6 default).int).toNat) le6_0 fun ρ _ hq => ?_
  obtain ⟨p, v, i, rfl, hp, hi⟩ : pr6a ρ := hq
  have h64 := hp.1
  have hlL : (Lrow p).length = p.length := rowF_len
  have hlA : (Arow p).length = p.length := rowF_len
  by_cases hlt : i < p.length
  · have hpre : pr6b [.l (p.map encI), v, .i (p.length : Int), .l ((Lrow p).map encI), .l ((Arow p).map encI), .l ((Rrow p).map encI), .i (i : Int), .i 0, .i 0] := ⟨p, v, i, 0, rfl, hp, hlt, by omega⟩
    have hLi : (Lrow p).getD i 0 = L p i := rowF_get 0 hlt
    have hAi : (Arow p).getD i 0 = ang p i := rowF_get 0 hlt
    have hm := max1 hp hlt
    have ha := ang_bd hp hlt
    simp (disch := omega) only [rt6_0, VT.ok, Nd.holds, X.outs, X.ds, X.d, Op1.ev, Op2.ev, takeD_zero, takeD_cons, List.cons_append, List.nil_append, List.getD_cons_zero, List.getD_cons_succ, D.int_i, D.bool_b, D.lst_l, imax, Int.toNat_natCast, List.length_map, Bool.false_eq_true, implies_true, true_and, F10600, R10600, ↓reduceIte, dle_t, dlt_t, dlt_f, beq_f, w64', rowI, encI, hLi, hAi, hlL, hlA, lp6b, dp_enc, hm, beq_self_eq_true, Bool.not_true, Bool.not_false]
    refine ⟨fun _ => hpre, round_next ⟨⟨p, v, i + 1, rfl, hp, by omega⟩, ?_, rfl⟩⟩
    show ((p.length : Int) - ((i + 1 : Nat) : Int)).toNat < ((p.length : Int) - (i : Int)).toNat
    omega
  · have hj : i = p.length := by omega
    subst hj
    simp (disch := omega) only [rt6_0, VT.ok, X.ds, X.d, Op2.ev, List.getD_cons_zero, List.getD_cons_succ, D.int_i, D.bool_b, Bool.false_eq_true, ↓reduceIte, dlt_f]
    exact round_exit (by omega) rfl
theorem law6 : Meets Try.prog 6 S6 (fun _ => True) (fun _ => [.b true]) := by
  refine meets_of_vt (pre := R) (Φ := F) mixed (sgAt_all (P := Try.prog) (pre := R) (Φ := F) (l := sg6) (List.forall_mem_cons.2 ⟨Meets.at (pre := R) (Φ := F) m19, List.forall_mem_cons.2 ⟨Meets.at (pre := R) (Φ := F) m8, List.forall_mem_cons.2 ⟨Meets.at (pre := R) (Φ := F) m12, List.forall_mem_cons.2 ⟨Meets.at (pre := R) (Φ := F) m9, List.forall_mem_cons.2 ⟨Meets.at (pre := R) (Φ := F) m20, (fun _ h => nomatch h)⟩⟩⟩⟩⟩)) Try.func6 b6 n6 (loops_n 2 k6 fun k hk => match k, hk with | 0, _ => loop_this lf6_0 loopM6_0 | 1, _ => loop_this lf6_1 loopM6_1) e6 fun ds hf _ => ?_
  obtain ⟨x0, rfl, f0⟩ := fits1 hf.flat
  obtain ⟨p, rfl, hm, _⟩ := slI f0
  have hl : lPre [.l (p.map encI)] := ⟨p, rfl, hm⟩
  simp only [vt6, VT.ok, Nd.holds, X.outs, X.ds, X.d, Op1.ev, Op2.ev, takeD_zero, takeD_cons, List.cons_append, List.nil_append, List.getD_cons_zero, List.getD_cons_succ, D.int_i, D.bool_b, D.lst_l, ite_b, ite_or, List.length_map, implies_true, true_and, F19, R19, F12, R12, F9, R9, F20, R20, F8, R8, F10601, R10601, okD, dp_enc]
  refine ⟨fun _ => hl, ?_⟩
  cases hk : okF p
  · simp only [takeD_zero, takeD_cons, List.getD_cons_zero, if_true, Bool.not_false, one]
  · have hp := okF_iff.1 hk
    have h64 := hp.1
    have hlL : (Lrow p).length = p.length := rowF_len
    have hlA : (Arow p).length = p.length := rowF_len
    have hfp : fPre [.l (p.map encI)] := ⟨p, rfl, hp⟩
    have hpre : pr6a [.l (p.map encI), .b false, .i (p.length : Int), .l ((Lrow p).map encI), .l ((Arow p).map encI), .l ((Rrow p).map encI), .i 0] := ⟨p, _, 0, rfl, hp, by omega⟩
    simp (disch := omega) only [takeD_zero, takeD_cons, List.cons_append, List.nil_append, List.getD_cons_zero, List.getD_cons_succ, D.int_i, D.lst_l, List.length_map, Bool.false_eq_true, and_true, ↓reduceIte, beq_t, beq_f, angD, leavesD, ringD, dp_enc, hk, Bool.not_true, hlL, hlA, Bool.or_self, lp6a, one]
    exact ⟨fun _ => hl, fun _ => hl, fun _ => hfp, fun _ => hpre⟩
end Go.Proofs.Ytdehhmcfhaeheaa.rv
