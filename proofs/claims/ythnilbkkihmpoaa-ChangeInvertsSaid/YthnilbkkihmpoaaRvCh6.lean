/-
  Changes of graphs: small lists, equal lists.
-/
import Derived.Test.YthnilbkkihmpoaaRvCh5
namespace Go.Proofs.Ythnilbkkihmpoaa.rv
open Go.RV
set_option maxRecDepth 10000

theorem fewN_eq (N : List (List D)) (j : Nat) : decide (20 < (((N.getD j []).getD 5 default).lst.length : Int)) = fewN N j := by unfold fewN; rfl
theorem fewL_eq (N : List (List D)) (j : Nat) : decide (20 < (((N.getD j []).getD 7 default).lst.length : Int)) = fewL N j := by unfold fewL; rfl
theorem loopM8_0 : LoopMeets Try.prog F (R L8_0.key) L8_0 lb8_0 := by
  refine loop_meets (pre := R) mixed (sgAt_all (P := Try.prog) (pre := R) (Φ := F) (l := sg8) ((fun _ h => nomatch h))) (loops_n 0 lk8_0 fun k hk => by omega) L8_0 (fun ρ => (((ρ.getD 4 default).lst.length : Int) - (ρ.getD 1 default).int).toNat) le8_0 fun ρ _ hq => ?_
  obtain ⟨v, a, b, N, c, d, j, rfl, hj, hm⟩ : prFw0 ρ := hq
  rw [maxLen_val] at hm
  by_cases hlt : j < N.length
  · simp (disch := omega) only [rt8_0, VT.ok, Nd.holds, X.ds, X.d, Op1.ev, Op2.ev, List.getD_cons_zero, List.getD_cons_succ, D.int_i, D.bool_b, D.lst_l, Int.toNat_natCast, implies_true, true_and, ↓reduceIte, dle_t, dlt_t, w64', fewN_eq]
    cases hb : fewN N j
    · simp only [Bool.false_eq_true, if_false]
      refine round_next ⟨⟨v, a, b, N, c, d, j + 1, rfl, by omega, hm⟩, ?_, ?_⟩
      · show ((N.length : Int) - ((j + 1 : Nat) : Int)).toNat < ((N.length : Int) - (j : Int)).toNat
        omega
      · show lpFw0 [v, .i ((j + 1 : Nat) : Int), a, b, .l N, c, d] = lpFw0 [v, .i (j : Int), a, b, .l N, c, d]
        simp only [lpFw0, Int.toNat_natCast]
        exact scan_next hlt hb
    · simp only [if_true]
      refine round_exit (by omega) ?_
      show lpFw0 [v, .i (j : Int), a, b, .l N, c, d] = _
      simp only [lpFw0, Int.toNat_natCast]
      exact scan_hit hlt hb
  · have hj' : j = N.length := by omega
    subst hj'
    simp (disch := omega) only [rt8_0, VT.ok, X.ds, X.d, Op1.ev, Op2.ev, List.getD_cons_zero, List.getD_cons_succ, D.int_i, D.bool_b, D.lst_l, Bool.false_eq_true, ↓reduceIte, dlt_f]
    refine round_exit (by omega) ?_
    show lpFw0 [v, .i (N.length : Int), a, b, .l N, c, d] = _
    simp only [lpFw0, Int.toNat_natCast]
    exact scan_end
theorem loopM8_1 : LoopMeets Try.prog F (R L8_1.key) L8_1 lb8_1 := by
  refine loop_meets (pre := R) mixed (sgAt_all (P := Try.prog) (pre := R) (Φ := F) (l := sg8) ((fun _ h => nomatch h))) (loops_n 0 lk8_1 fun k hk => by omega) L8_1 (fun ρ => (((ρ.getD 0 default).lst.length : Int) - (ρ.getD 2 default).int).toNat) le8_1 fun ρ _ hq => ?_
  obtain ⟨l, v, j, rfl, hj, hm⟩ : prFw1 ρ := hq
  rw [maxLen_val] at hm
  by_cases hlt : j < l.length
  · simp (disch := omega) only [rt8_1, VT.ok, Nd.holds, X.ds, X.d, Op1.ev, Op2.ev, List.getD_cons_zero, List.getD_cons_succ, D.int_i, D.bool_b, D.lst_l, Int.toNat_natCast, implies_true, true_and, ↓reduceIte, dle_t, dlt_t, w64', fewL_eq]
    cases hb : fewL l j
    · simp only [Bool.false_eq_true, if_false]
      refine round_next ⟨⟨l, v, j + 1, rfl, by omega, hm⟩, ?_, ?_⟩
      · show ((l.length : Int) - ((j + 1 : Nat) : Int)).toNat < ((l.length : Int) - (j : Int)).toNat
        omega
      · show lpFw1 [.l l, v, .i ((j + 1 : Nat) : Int)] = lpFw1 [.l l, v, .i (j : Int)]
        simp only [lpFw1, Int.toNat_natCast]
        exact scan_next hlt hb
    · simp only [if_true]
      refine round_exit (by omega) ?_
      show lpFw1 [.l l, v, .i (j : Int)] = _
      simp only [lpFw1, Int.toNat_natCast]
      exact scan_hit hlt hb
  · have hj' : j = l.length := by omega
    subst hj'
    simp (disch := omega) only [rt8_1, VT.ok, X.ds, X.d, Op1.ev, Op2.ev, List.getD_cons_zero, List.getD_cons_succ, D.int_i, D.bool_b, D.lst_l, Bool.false_eq_true, ↓reduceIte, dlt_f]
    refine round_exit (by omega) ?_
    show lpFw1 [.l l, v, .i (l.length : Int)] = _
    simp only [lpFw1, Int.toNat_natCast]
    exact scan_end
theorem nor4' (a b c d e : Bool) : (!(((a || b) || c) || d) && e) = if (((a || b) || c) || d) = true then false else e := by
  cases a <;> cases b <;> cases c <;> cases d <;> cases e <;> rfl
theorem m8 : Meets Try.prog 8 S8 (R 8) (F 8) := by
  refine meets_of_vt (pre := R) (Φ := F) mixed (sgAt_all (P := Try.prog) (pre := R) (Φ := F) (l := sg8) ((fun _ h => nomatch h))) Try.func8 b8 n8 (loops_n 2 k8 fun k hk => match k, hk with | 0, _ => loop_this lf8_0 loopM8_0 | 1, _ => loop_this lf8_1 loopM8_1) e8 fun ds hf hq => ?_
  obtain ⟨g, ds', rfl, h5, _, ⟨hmN, _⟩, _⟩ := fitsG hf.flat
  obtain ⟨y, rfl, hy⟩ := fits1 h5
  obtain ⟨l, rfl, hl, _⟩ := wf_sl hy
  have hF : F 8 (.s g.nm :: .b g.dr :: .l g.N :: .l g.E :: .l g.C :: [.l l]) = [.b (fewB g l)] := rfl
  rw [hF]
  generalize hv : fewB g l = res
  rw [fewB, nor4'] at hv
  have hp0 : prFw0 [.b false, .i 0, .s g.nm, .b g.dr, .l g.N, .l g.E, .l g.C] := ⟨_, _, _, g.N, _, _, 0, rfl, by omega, hmN⟩
  have hp1 : ∀ v, prFw1 [.l l, v, .i 0] := fun v => ⟨l, v, 0, rfl, by omega, hl⟩
  simp only [vt8, VT.ok, Nd.holds, X.outs, X.ds, X.d, Op1.ev, Op2.ev, List.cons_append, List.nil_append, List.getD_cons_zero, List.getD_cons_succ, D.int_i, D.bool_b, D.lst_l, ite_b, ite_or, F10800, R10800, F10801, R10801]
  cases hc : ((((decide (80 < (g.N.length : Int)) || decide (300 < (g.E.length : Int))) || decide (30 < (g.C.length : Int))) || decide (20 < (l.length : Int))))
  · rw [hc] at hv
    simp only [Bool.false_eq_true, if_false] at hv ⊢
    refine ⟨fun _ => hp0, ?_⟩
    simp only [lpFw0, Int.toNat_zero, Nat.sub_zero]
    rcases scan_two (p := fewN g.N) g.N.length with ⟨h1, j, _, _, _, h⟩ | ⟨h1, h⟩
    · rw [h1] at hv
      simp only [h, takeD_zero, takeD_cons, List.cons_append, List.nil_append, List.getD_cons_zero, List.getD_cons_succ, D.int_i, ← hv]
      rfl
    · rw [h1] at hv
      simp only [h, takeD_zero, takeD_cons, List.cons_append, List.nil_append, List.getD_cons_zero, List.getD_cons_succ, D.int_i]
      refine ⟨fun _ => hp1 _, ?_⟩
      simp only [lpFw1, Int.toNat_zero, Nat.sub_zero]
      rcases scan_two (p := fewL l) l.length with ⟨h2, j, _, _, _, h3⟩ | ⟨h2, h3⟩
      · rw [h2] at hv
        simp only [h3, takeD_zero, takeD_cons, List.getD_cons_zero, List.getD_cons_succ, D.int_i, ← hv]
        rfl
      · rw [h2] at hv
        simp only [h3, takeD_zero, takeD_cons, List.getD_cons_zero, List.getD_cons_succ, D.int_i, ← hv]
        rfl
  · rw [hc] at hv
    simp only [if_true] at hv ⊢
    rw [← hv]


theorem loopM35_0 : LoopMeets Try.prog F (R L35_0.key) L35_0 lb35_0 := by
  refine loop_meets (pre := R) mixed (sgAt_all (P := Try.prog) (pre := R) (Φ := F) (l := sg35) ((fun _ h => nomatch h))) (loops_n 0 lk35_0 fun k hk => by omega) L35_0 (fun ρ => (((ρ.getD 0 default).lst.length : Int) - (ρ.getD 3 default).int).toNat) le35_0 fun ρ _ hq => ?_
  obtain ⟨xs, ys, v, j, rfl, hj, hm, hl⟩ : prE2 ρ := hq
  rw [maxLen_val] at hm
  by_cases hlt : j < xs.length
  · simp (disch := omega) only [rt35_0, VT.ok, Nd.holds, X.ds, X.d, Op1.ev, Op2.ev, List.getD_cons_zero, List.getD_cons_succ, D.int_i, D.bool_b, D.lst_l, ite_b, ite_and, Int.toNat_natCast, implies_true, true_and, ↓reduceIte, dle_t, dlt_t, w64']
    show if (!sameRow2 (el xs j) (el ys j)) = true then _ else _
    cases hb : sameRow2 (el xs j) (el ys j)
    · simp only [Bool.not_false, if_true]
      refine round_exit (by omega) ?_
      show lpE2 sameRow2 [.l xs, .l ys, v, .i (j : Int)] = _
      simp only [lpE2, Int.toNat_natCast]
      exact scan_hit hlt (by rw [hb]; rfl)
    · simp only [Bool.not_true, Bool.false_eq_true, if_false]
      refine round_next ⟨⟨xs, ys, v, j + 1, rfl, by omega, hm, hl⟩, ?_, ?_⟩
      · show ((xs.length : Int) - ((j + 1 : Nat) : Int)).toNat < ((xs.length : Int) - (j : Int)).toNat
        omega
      · show lpE2 sameRow2 [.l xs, .l ys, v, .i ((j + 1 : Nat) : Int)] = lpE2 sameRow2 [.l xs, .l ys, v, .i (j : Int)]
        simp only [lpE2, Int.toNat_natCast]
        exact scan_next hlt (by rw [hb]; rfl)
  · have hj' : j = xs.length := by omega
    subst hj'
    simp (disch := omega) only [rt35_0, VT.ok, X.ds, X.d, Op1.ev, Op2.ev, List.getD_cons_zero, List.getD_cons_succ, D.int_i, D.bool_b, D.lst_l, Bool.false_eq_true, ↓reduceIte, dlt_f]
    refine round_exit (by omega) ?_
    show lpE2 sameRow2 [.l xs, .l ys, v, .i (xs.length : Int)] = _
    simp only [lpE2, Int.toNat_natCast]
    exact scan_end
theorem loopM20_0 : LoopMeets Try.prog F (R L20_0.key) L20_0 lb20_0 := by
  refine loop_meets (pre := R) mixed (sgAt_all (P := Try.prog) (pre := R) (Φ := F) (l := sg20) ((fun _ h => nomatch h))) (loops_n 0 lk20_0 fun k hk => by omega) L20_0 (fun ρ => (((ρ.getD 0 default).lst.length : Int) - (ρ.getD 3 default).int).toNat) le20_0 fun ρ _ hq => ?_
  obtain ⟨xs, ys, v, j, rfl, hj, hm, hl⟩ : prE2 ρ := hq
  rw [maxLen_val] at hm
  by_cases hlt : j < xs.length
  · simp (disch := omega) only [rt20_0, VT.ok, Nd.holds, X.ds, X.d, Op1.ev, Op2.ev, List.getD_cons_zero, List.getD_cons_succ, D.int_i, D.bool_b, D.lst_l, Int.toNat_natCast, implies_true, true_and, ↓reduceIte, dle_t, dlt_t, w64']
    show if (!sameI1 (el xs j) (el ys j)) = true then _ else _
    cases hb : sameI1 (el xs j) (el ys j)
    · simp only [Bool.not_false, if_true]
      refine round_exit (by omega) ?_
      show lpE2 sameI1 [.l xs, .l ys, v, .i (j : Int)] = _
      simp only [lpE2, Int.toNat_natCast]
      exact scan_hit hlt (by rw [hb]; rfl)
    · simp only [Bool.not_true, Bool.false_eq_true, if_false]
      refine round_next ⟨⟨xs, ys, v, j + 1, rfl, by omega, hm, hl⟩, ?_, ?_⟩
      · show ((xs.length : Int) - ((j + 1 : Nat) : Int)).toNat < ((xs.length : Int) - (j : Int)).toNat
        omega
      · show lpE2 sameI1 [.l xs, .l ys, v, .i ((j + 1 : Nat) : Int)] = lpE2 sameI1 [.l xs, .l ys, v, .i (j : Int)]
        simp only [lpE2, Int.toNat_natCast]
        exact scan_next hlt (by rw [hb]; rfl)
  · have hj' : j = xs.length := by omega
    subst hj'
    simp (disch := omega) only [rt20_0, VT.ok, X.ds, X.d, Op1.ev, Op2.ev, List.getD_cons_zero, List.getD_cons_succ, D.int_i, D.bool_b, D.lst_l, Bool.false_eq_true, ↓reduceIte, dlt_f]
    refine round_exit (by omega) ?_
    show lpE2 sameI1 [.l xs, .l ys, v, .i (xs.length : Int)] = _
    simp only [lpE2, Int.toNat_natCast]
    exact scan_end
theorem m35 : Meets Try.prog 35 S35 (R 35) (F 35) := by
  refine meets_of_vt (pre := R) (Φ := F) mixed (sgAt_all (P := Try.prog) (pre := R) (Φ := F) (l := sg35) ((fun _ h => nomatch h))) Try.func35 b35 n35 (loops_n 1 k35 fun k hk => match k, hk with | 0, _ => loop_this lf35_0 loopM35_0) e35 fun ds hf hq => ?_
  obtain ⟨x, y, rfl, hx, hy⟩ := fits2 hf.flat
  obtain ⟨xs, rfl, hm, _⟩ := wf_sl hx
  obtain ⟨ys, rfl, hm', _⟩ := wf_sl hy
  by_cases hl : ys.length = xs.length
  · have hpre : prE2 [.l xs, .l ys, .b false, .i 0] := ⟨xs, ys, _, 0, rfl, by omega, hm, hl⟩
    simp (disch := omega) only [vt35, VT.ok, Nd.holds, X.outs, X.ds, X.d, Op1.ev, Op2.ev, List.cons_append, List.nil_append, List.getD_cons_zero, List.getD_cons_succ, D.int_i, D.bool_b, D.lst_l, Bool.false_eq_true, F13500, R13500, F35, ↓reduceIte, beq_t, Bool.not_true, eqFn, eqR, cL]
    refine ⟨fun _ => hpre, ?_⟩
    simp only [lpE2, Int.toNat_zero, Nat.sub_zero]
    rcases scan_two (p := fun j => !sameRow2 (el xs j) (el ys j)) xs.length with ⟨h1, j, _, _, _, h⟩ | ⟨h1, h⟩
    · simp only [h, h1]; rfl
    · simp only [h, h1]; rfl
  · simp (disch := omega) only [vt35, VT.ok, X.ds, X.d, Op1.ev, Op2.ev, List.getD_cons_zero, List.getD_cons_succ, D.int_i, D.bool_b, D.lst_l, F35, ↓reduceIte, beq_f, Bool.not_false, eqFn, eqR, cL, Bool.false_and]
theorem m20 : Meets Try.prog 20 S20 (R 20) (F 20) := by
  refine meets_of_vt (pre := R) (Φ := F) mixed (sgAt_all (P := Try.prog) (pre := R) (Φ := F) (l := sg20) ((fun _ h => nomatch h))) Try.func20 b20 n20 (loops_n 1 k20 fun k hk => match k, hk with | 0, _ => loop_this lf20_0 loopM20_0) e20 fun ds hf hq => ?_
  obtain ⟨x, y, rfl, hx, hy⟩ := fits2 hf.flat
  obtain ⟨xs, rfl, hm, _⟩ := wf_sl hx
  obtain ⟨ys, rfl, hm', _⟩ := wf_sl hy
  by_cases hl : ys.length = xs.length
  · have hpre : prE2 [.l xs, .l ys, .b false, .i 0] := ⟨xs, ys, _, 0, rfl, by omega, hm, hl⟩
    simp (disch := omega) only [vt20, VT.ok, Nd.holds, X.outs, X.ds, X.d, Op1.ev, Op2.ev, List.cons_append, List.nil_append, List.getD_cons_zero, List.getD_cons_succ, D.int_i, D.bool_b, D.lst_l, Bool.false_eq_true, F12000, R12000, F20, ↓reduceIte, beq_t, Bool.not_true, eqFn, eqR, cL]
    refine ⟨fun _ => hpre, ?_⟩
    simp only [lpE2, Int.toNat_zero, Nat.sub_zero]
    rcases scan_two (p := fun j => !sameI1 (el xs j) (el ys j)) xs.length with ⟨h1, j, _, _, _, h⟩ | ⟨h1, h⟩
    · simp only [h, h1]; rfl
    · simp only [h, h1]; rfl
  · simp (disch := omega) only [vt20, VT.ok, X.ds, X.d, Op1.ev, Op2.ev, List.getD_cons_zero, List.getD_cons_succ, D.int_i, D.bool_b, D.lst_l, F20, ↓reduceIte, beq_f, Bool.not_false, eqFn, eqR, cL, Bool.false_and]
theorem nor9 (a b c d e f g h i : Bool) : (((((((((!a || !b) || !c) || !d) || !e) || !f) || !g) || !h)) || !i) = !((((((((a && b) && c) && d) && e) && f) && g) && h) && i) := by
  cases a <;> cases b <;> cases c <;> cases d <;> cases e <;> cases f <;> cases g <;> cases h <;> cases i <;> rfl
theorem loopM15_0 : LoopMeets Try.prog F (R L15_0.key) L15_0 lb15_0 := by
  refine loop_meets (pre := R) mixed (sgAt_all (P := Try.prog) (pre := R) (Φ := F) (l := sg15) (List.forall_mem_cons.2 ⟨Meets.at (pre := R) (Φ := F) m35, (fun _ h => nomatch h)⟩)) (loops_n 0 lk15_0 fun k hk => by omega) L15_0 (fun ρ => (((ρ.getD 0 default).lst.length : Int) - (ρ.getD 3 default).int).toNat) le15_0 fun ρ _ hq => ?_
  obtain ⟨xs, ys, v, j, rfl, hj, hm, hl⟩ : prE2 ρ := hq
  rw [maxLen_val] at hm
  by_cases hlt : j < xs.length
  · have c0 : decide ((0 : Int) ≤ (j : Int)) = true := decide_eq_true (by omega)
    have c1 : decide ((j : Int) < (xs.length : Int)) = true := decide_eq_true (by omega)
    have c2 : decide ((j : Int) < (ys.length : Int)) = true := decide_eq_true (by omega)
    have c3 : IntKind.i64.wrap ((j : Int) + 1) = (j : Int) + 1 := w64 (by omega)
    simp only [rt15_0, VT.ok, Nd.holds, X.outs, X.ds, X.d, Op1.ev, Op2.ev, takeD_zero, takeD_cons, List.cons_append, List.nil_append, List.getD_cons_zero, List.getD_cons_succ, D.int_i, D.bool_b, D.lst_l, ite_b, ite_or, ite_and, Int.toNat_natCast, if_true, implies_true, true_and, F35, R35, eqFn, c0, c1, c2, c3]
    rw [nor9]
    show if (!sameEditB (el xs j) (el ys j)) = true then _ else _
    cases hb : sameEditB (el xs j) (el ys j)
    · simp only [Bool.not_false, if_true]
      refine round_exit (by omega) ?_
      show lpE2 sameEditB [.l xs, .l ys, v, .i (j : Int)] = _
      simp only [lpE2, Int.toNat_natCast]
      exact scan_hit hlt (by rw [hb]; rfl)
    · simp only [Bool.not_true, Bool.false_eq_true, if_false]
      refine round_next ⟨⟨xs, ys, v, j + 1, rfl, by omega, hm, hl⟩, ?_, ?_⟩
      · show ((xs.length : Int) - ((j + 1 : Nat) : Int)).toNat < ((xs.length : Int) - (j : Int)).toNat
        omega
      · show lpE2 sameEditB [.l xs, .l ys, v, .i ((j + 1 : Nat) : Int)] = lpE2 sameEditB [.l xs, .l ys, v, .i (j : Int)]
        simp only [lpE2, Int.toNat_natCast]
        exact scan_next hlt (by rw [hb]; rfl)
  · have hj' : j = xs.length := by omega
    subst hj'
    simp (disch := omega) only [rt15_0, VT.ok, X.ds, X.d, Op1.ev, Op2.ev, List.getD_cons_zero, List.getD_cons_succ, D.int_i, D.bool_b, D.lst_l, Bool.false_eq_true, ↓reduceIte, dlt_f]
    refine round_exit (by omega) ?_
    show lpE2 sameEditB [.l xs, .l ys, v, .i (xs.length : Int)] = _
    simp only [lpE2, Int.toNat_natCast]
    exact scan_end
theorem m15 : Meets Try.prog 15 S15 (R 15) (F 15) := by
  refine meets_of_vt (pre := R) (Φ := F) mixed (sgAt_all (P := Try.prog) (pre := R) (Φ := F) (l := sg15) (List.forall_mem_cons.2 ⟨Meets.at (pre := R) (Φ := F) m35, (fun _ h => nomatch h)⟩)) Try.func15 b15 n15 (loops_n 1 k15 fun k hk => match k, hk with | 0, _ => loop_this lf15_0 loopM15_0) e15 fun ds hf hq => ?_
  obtain ⟨x, y, rfl, hx, hy⟩ := fits2 hf.flat
  obtain ⟨xs, rfl, hm, _⟩ := wf_sl hx
  obtain ⟨ys, rfl, hm', _⟩ := wf_sl hy
  by_cases hl : ys.length = xs.length
  · have hpre : prE2 [.l xs, .l ys, .b false, .i 0] := ⟨xs, ys, _, 0, rfl, by omega, hm, hl⟩
    simp (disch := omega) only [vt15, VT.ok, Nd.holds, X.outs, X.ds, X.d, Op1.ev, Op2.ev, List.cons_append, List.nil_append, List.getD_cons_zero, List.getD_cons_succ, D.int_i, D.bool_b, D.lst_l, Bool.false_eq_true, F11500, R11500, F15, ↓reduceIte, beq_t, Bool.not_true, eqFn, eqR, cL]
    refine ⟨fun _ => hpre, ?_⟩
    simp only [lpE2, Int.toNat_zero, Nat.sub_zero]
    rcases scan_two (p := fun j => !sameEditB (el xs j) (el ys j)) xs.length with ⟨h1, j, _, _, _, h⟩ | ⟨h1, h⟩
    · simp only [h, h1]; rfl
    · simp only [h, h1]; rfl
  · simp (disch := omega) only [vt15, VT.ok, X.ds, X.d, Op1.ev, Op2.ev, List.getD_cons_zero, List.getD_cons_succ, D.int_i, D.bool_b, D.lst_l, F15, ↓reduceIte, beq_f, Bool.not_false, eqFn, eqR, cL, Bool.false_and]
end Go.Proofs.Ythnilbkkihmpoaa.rv
