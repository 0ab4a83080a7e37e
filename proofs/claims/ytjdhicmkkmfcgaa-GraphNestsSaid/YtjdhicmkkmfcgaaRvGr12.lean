/-
  Graphs: equal lists and graphs; skeletons.
-/
import Derived.Test.YtjdhicmkkmfcgaaRvGr11
namespace Go.Proofs.Ytjdhicmkkmfcgaa.rv
open Go.RV

theorem loopM18_0 : LoopMeets Try.prog F (R L18_0.key) L18_0 lb18_0 := by
  refine loop_meets (pre := R) mixed (sgAt_all (P := Try.prog) (pre := R) (Φ := F) (l := sg18) ((fun _ h => nomatch h))) (loops_n 0 lk18_0 fun k hk => by omega) L18_0 (fun ρ => (((ρ.getD 0 default).lst.length : Int) - (ρ.getD 3 default).int).toNat) le18_0 fun ρ _ hq => ?_
  obtain ⟨xs, ys, v, j, rfl, hj, hm, hl⟩ : prSI ρ := hq
  rw [maxLen_val] at hm
  by_cases hlt : j < xs.length
  · simp (disch := omega) only [rt18_0, VT.ok, Nd.holds, X.ds, X.d, Op1.ev, Op2.ev, List.getD_cons_zero, List.getD_cons_succ, D.int_i, D.bool_b, D.lst_l, Int.toNat_natCast, implies_true, true_and, ↓reduceIte, dle_t, dlt_t, w64']
    show if (!sameI1 (el xs j) (el ys j)) = true then _ else _
    cases hb : sameI1 (el xs j) (el ys j)
    · simp only [Bool.not_false, if_true]
      refine round_exit (by omega) ?_
      show lpSI [.l xs, .l ys, v, .i (j : Int)] = _
      simp only [lpSI, Int.toNat_natCast]
      exact scan_hit hlt (by rw [hb]; rfl)
    · simp only [Bool.not_true, Bool.false_eq_true, if_false]
      refine round_next ⟨⟨xs, ys, v, j + 1, rfl, by omega, hm, hl⟩, ?_, ?_⟩
      · show ((xs.length : Int) - ((j + 1 : Nat) : Int)).toNat < ((xs.length : Int) - (j : Int)).toNat
        omega
      · show lpSI [.l xs, .l ys, v, .i ((j + 1 : Nat) : Int)] = lpSI [.l xs, .l ys, v, .i (j : Int)]
        simp only [lpSI, Int.toNat_natCast]
        exact scan_next hlt (by rw [hb]; rfl)
  · have hj' : j = xs.length := by omega
    subst hj'
    simp (disch := omega) only [rt18_0, VT.ok, X.ds, X.d, Op1.ev, Op2.ev, List.getD_cons_zero, List.getD_cons_succ, D.int_i, D.bool_b, D.lst_l, Bool.false_eq_true, ↓reduceIte, dlt_f]
    refine round_exit (by omega) ?_
    show lpSI [.l xs, .l ys, v, .i (xs.length : Int)] = _
    simp only [lpSI, Int.toNat_natCast]
    exact scan_end
theorem m18 : Meets Try.prog 18 S18 (R 18) (F 18) := by
  refine meets_of_vt (pre := R) (Φ := F) mixed (sgAt_all (P := Try.prog) (pre := R) (Φ := F) (l := sg18) ((fun _ h => nomatch h))) Try.func18 b18 n18 (loops_n 1 k18 fun k hk => match k, hk with | 0, _ => loop_this lf18_0 loopM18_0) e18 fun ds hf hq => ?_
  obtain ⟨x, y, rfl, hx, hy⟩ := fits2 hf.flat
  obtain ⟨xs, rfl, hm, _⟩ := wf_sl hx
  obtain ⟨ys, rfl, hm', _⟩ := wf_sl hy
  by_cases hl : ys.length = xs.length
  · have hpre : prSI [.l xs, .l ys, .b false, .i 0] := ⟨xs, ys, _, 0, rfl, by omega, hm, hl⟩
    simp (disch := omega) only [vt18, VT.ok, Nd.holds, X.outs, X.ds, X.d, Op1.ev, Op2.ev, List.cons_append, List.nil_append, List.getD_cons_zero, List.getD_cons_succ, D.int_i, D.bool_b, D.lst_l, Bool.false_eq_true, F11800, R11800, F18, ↓reduceIte, beq_t, Bool.not_true, eqFn, eqR, cL]
    refine ⟨fun _ => hpre, ?_⟩
    simp only [lpSI, Int.toNat_zero, Nat.sub_zero]
    rcases scan_two (p := fun j => !sameI1 (el xs j) (el ys j)) xs.length with ⟨h1, j, _, _, _, h⟩ | ⟨h1, h⟩
    · simp only [h, h1]; rfl
    · simp only [h, h1]; rfl
  · simp (disch := omega) only [vt18, VT.ok, X.ds, X.d, Op1.ev, Op2.ev, List.getD_cons_zero, List.getD_cons_succ, D.int_i, D.bool_b, D.lst_l, F18, ↓reduceIte, beq_f, Bool.not_false, eqFn, eqR, cL, Bool.false_and]
theorem loopM13_0 : LoopMeets Try.prog F (R L13_0.key) L13_0 lb13_0 := by
  refine loop_meets (pre := R) mixed (sgAt_all (P := Try.prog) (pre := R) (Φ := F) (l := sg13) ((fun _ h => nomatch h))) (loops_n 0 lk13_0 fun k hk => by omega) L13_0 (fun ρ => (((ρ.getD 3 default).lst.length : Int) - (ρ.getD 1 default).int).toNat) le13_0 fun ρ _ hq => ?_
  obtain ⟨v, m, xs, n, ys, j, rfl, hj, hm, hl⟩ : prSA ρ := hq
  rw [maxLen_val] at hm
  by_cases hlt : j < xs.length
  · simp (disch := omega) only [rt13_0, VT.ok, Nd.holds, X.ds, X.d, Op1.ev, Op2.ev, List.getD_cons_zero, List.getD_cons_succ, D.int_i, D.bool_b, D.lst_l, ite_b, ite_and, Int.toNat_natCast, implies_true, true_and, ↓reduceIte, dle_t, dlt_t, w64']
    show if (!sameI2 (el xs j) (el ys j)) = true then _ else _
    cases hb : sameI2 (el xs j) (el ys j)
    · simp only [Bool.not_false, if_true]
      refine round_exit (by omega) ?_
      show lpSA [v, .i (j : Int), m, .l xs, n, .l ys] = _
      simp only [lpSA, Int.toNat_natCast]
      exact scan_hit hlt (by rw [hb]; rfl)
    · simp only [Bool.not_true, Bool.false_eq_true, if_false]
      refine round_next ⟨⟨v, m, xs, n, ys, j + 1, rfl, by omega, hm, hl⟩, ?_, ?_⟩
      · show ((xs.length : Int) - ((j + 1 : Nat) : Int)).toNat < ((xs.length : Int) - (j : Int)).toNat
        omega
      · show lpSA [v, .i ((j + 1 : Nat) : Int), m, .l xs, n, .l ys] = lpSA [v, .i (j : Int), m, .l xs, n, .l ys]
        simp only [lpSA, Int.toNat_natCast]
        exact scan_next hlt (by rw [hb]; rfl)
  · have hj' : j = xs.length := by omega
    subst hj'
    simp (disch := omega) only [rt13_0, VT.ok, X.ds, X.d, Op1.ev, Op2.ev, List.getD_cons_zero, List.getD_cons_succ, D.int_i, D.bool_b, D.lst_l, Bool.false_eq_true, ↓reduceIte, dlt_f]
    refine round_exit (by omega) ?_
    show lpSA [v, .i (xs.length : Int), m, .l xs, n, .l ys] = _
    simp only [lpSA, Int.toNat_natCast]
    exact scan_end
theorem fits4 {a b c d : CT} {ds : List D} (h : FitsF [a, b, c, d] ds) : ∃ x y z w, ds = [x, y, z, w] ∧ Wf a x ∧ Wf b y ∧ Wf c z ∧ Wf d w := by
  match ds, h with
  | [x, y, z, w], ⟨h0, h1, h2, h3, _⟩ => exact ⟨x, y, z, w, rfl, h0, h1, h2, h3⟩
theorem m13 : Meets Try.prog 13 S13 (R 13) (F 13) := by
  refine meets_of_vt (pre := R) (Φ := F) mixed (sgAt_all (P := Try.prog) (pre := R) (Φ := F) (l := sg13) ((fun _ h => nomatch h))) Try.func13 b13 n13 (loops_n 1 k13 fun k hk => match k, hk with | 0, _ => loop_this lf13_0 loopM13_0) e13 fun ds hf hq => ?_
  obtain ⟨x, y, z, w, rfl, hx, hy, hz, hw⟩ := fits4 hf.flat
  obtain ⟨m, rfl, _⟩ := wf_i64 hx
  obtain ⟨xs, rfl, hm, _⟩ := wf_sl hy
  obtain ⟨n, rfl, _⟩ := wf_i64 hz
  obtain ⟨ys, rfl, hm', _⟩ := wf_sl hw
  by_cases hmn : m = n
  · by_cases hl : ys.length = xs.length
    · have hpre : prSA [.b false, .i 0, .i m, .l xs, .i n, .l ys] := ⟨_, _, xs, _, ys, 0, rfl, by omega, hm, hl⟩
      simp (disch := omega) only [vt13, VT.ok, Nd.holds, X.outs, X.ds, X.d, Op1.ev, Op2.ev, List.cons_append, List.nil_append, List.getD_cons_zero, List.getD_cons_succ, D.int_i, D.bool_b, D.lst_l, Bool.false_eq_true, F11300, R11300, F13, ↓reduceIte, beq_t, Bool.not_true, saD, eqR, cL, cI, Bool.true_and]
      refine ⟨fun _ => hpre, ?_⟩
      simp only [lpSA, Int.toNat_zero, Nat.sub_zero]
      rcases scan_two (p := fun j => !sameI2 (el xs j) (el ys j)) xs.length with ⟨h1, j, _, _, _, h⟩ | ⟨h1, h⟩
      · simp only [h, h1]; rfl
      · simp only [h, h1]; rfl
    · simp (disch := omega) only [vt13, VT.ok, X.ds, X.d, Op1.ev, Op2.ev, List.getD_cons_zero, List.getD_cons_succ, D.int_i, D.bool_b, D.lst_l, Bool.false_eq_true, F13, ↓reduceIte, beq_t, beq_f, Bool.not_false, Bool.not_true, saD, eqR, cL, cI, Bool.false_and, Bool.and_false]
  · simp (disch := omega) only [vt13, VT.ok, X.ds, X.d, Op1.ev, Op2.ev, List.getD_cons_zero, List.getD_cons_succ, D.int_i, D.bool_b, D.lst_l, F13, ↓reduceIte, beq_f, Bool.not_false, saD, eqR, cL, cI, Bool.false_and]
theorem loopM14_0 : LoopMeets Try.prog F (R L14_0.key) L14_0 lb14_0 := by
  refine loop_meets (pre := R) mixed (sgAt_all (P := Try.prog) (pre := R) (Φ := F) (l := sg14) ((fun _ h => nomatch h))) (loops_n 0 lk14_0 fun k hk => by omega) L14_0 (fun ρ => ((ρ.getD 1 default).int - (ρ.getD 2 default).int).toNat) le14_0 fun ρ _ hq => ?_
  obtain ⟨E, j, n, acc, rfl, hj, hm, ha⟩ : prSk ρ := hq
  by_cases hlt : j < E.length
  · simp (disch := omega) only [rt14_0, VT.ok, Nd.holds, X.ds, X.d, Op1.ev, Op2.ev, List.getD_cons_zero, List.getD_cons_succ, D.int_i, D.bool_b, D.lst_l, Int.toNat_natCast, implies_true, true_and, ↓reduceIte, dle_t, dlt_t, w64', List.length_append, List.length_cons, List.length_nil]
    refine round_next ⟨⟨E, j + 1, n, acc ++ sk E j, rfl, by omega, hm, by rw [List.length_append, ha]; rfl⟩, ?_, ?_⟩
    · show ((E.length : Int) - ((j + 1 : Nat) : Int)).toNat < ((E.length : Int) - (j : Int)).toNat
      omega
    · show lpSk [.l E, .i (E.length : Int), .i ((j + 1 : Nat) : Int), n, .l (acc ++ sk E j)] = lpSk [.l E, .i (E.length : Int), .i (j : Int), n, .l acc]
      simp only [lpSk, Int.toNat_natCast]
      rw [coll_next (f := sk E) hlt acc]
  · have hj' : j = E.length := by omega
    subst hj'
    simp (disch := omega) only [rt14_0, VT.ok, X.ds, X.d, Op2.ev, List.getD_cons_zero, List.getD_cons_succ, D.int_i, D.bool_b, Bool.false_eq_true, ↓reduceIte, dlt_f]
    refine round_exit (by omega) ?_
    show lpSk [.l E, .i (E.length : Int), .i (E.length : Int), n, .l acc] = _
    simp only [lpSk, Int.toNat_natCast, coll_end]
theorem m14 : Meets Try.prog 14 S14 (R 14) (F 14) := by
  refine meets_of_vt (pre := R) (Φ := F) mixed (sgAt_all (P := Try.prog) (pre := R) (Φ := F) (l := sg14) ((fun _ h => nomatch h))) Try.func14 b14 n14 (loops_n 1 k14 fun k hk => match k, hk with | 0, _ => loop_this lf14_0 loopM14_0) e14 fun ds hf hq => ?_
  obtain ⟨g, ds', rfl, h5, _⟩ := fitsG hf.flat
  have e0 := fits0 h5
  subst e0
  have hq : g.E.length ≤ 1000000 := hq
  have hpre : prSk [.l g.E, .i (g.E.length : Int), .i 0, .i (g.N.length : Int), .l []] := ⟨g.E, 0, _, [], rfl, by omega, hq, rfl⟩
  simp only [vt14, VT.ok, Nd.holds, X.outs, X.ds, X.d, Op1.ev, takeD_zero, takeD_cons, List.cons_append, List.nil_append, List.getD_cons_zero, List.getD_cons_succ, D.bool_b, D.lst_l, and_true, F11400, R11400, F14, lpSk, skD, cL, Int.toNat_zero, List.nil_append]
  exact fun _ => hpre
theorem loopM15_0 : LoopMeets Try.prog F (R L15_0.key) L15_0 lb15_0 := by
  refine loop_meets (pre := R) mixed (sgAt_all (P := Try.prog) (pre := R) (Φ := F) (l := sg15) ((fun _ h => nomatch h))) (loops_n 0 lk15_0 fun k hk => by omega) L15_0 (fun ρ => (((ρ.getD 4 default).lst.length : Int) - (ρ.getD 0 default).int).toNat) le15_0 fun ρ _ hq => ?_
  obtain ⟨j, a, b, c, E, d, n, acc, rfl, hj, hm, ha⟩ : prSkR ρ := hq
  by_cases hlt : j < E.length
  · simp (disch := omega) only [rt15_0, VT.ok, Nd.holds, X.ds, X.d, Op1.ev, Op2.ev, List.getD_cons_zero, List.getD_cons_succ, D.int_i, D.bool_b, D.lst_l, Int.toNat_natCast, implies_true, true_and, ↓reduceIte, dle_t, dlt_t, w64', List.length_append, List.length_cons, List.length_nil]
    refine round_next ⟨⟨j + 1, a, b, c, E, d, n, acc ++ sk E j, rfl, by omega, hm, by rw [List.length_append, ha]; rfl⟩, ?_, ?_⟩
    · show ((E.length : Int) - ((j + 1 : Nat) : Int)).toNat < ((E.length : Int) - (j : Int)).toNat
      omega
    · show lpSkR [.i ((j + 1 : Nat) : Int), a, b, c, .l E, d, n, .l (acc ++ sk E j)] = lpSkR [.i (j : Int), a, b, c, .l E, d, n, .l acc]
      simp only [lpSkR, Int.toNat_natCast]
      rw [coll_next (f := sk E) hlt acc]
  · have hj' : j = E.length := by omega
    subst hj'
    simp (disch := omega) only [rt15_0, VT.ok, X.ds, X.d, Op1.ev, Op2.ev, List.getD_cons_zero, List.getD_cons_succ, D.int_i, D.bool_b, D.lst_l, Bool.false_eq_true, ↓reduceIte, dlt_f]
    refine round_exit (by omega) ?_
    show lpSkR [.i (E.length : Int), a, b, c, .l E, d, n, .l acc] = _
    simp only [lpSkR, Int.toNat_natCast, coll_end]
theorem m15 : Meets Try.prog 15 S15 (R 15) (F 15) := by
  refine meets_of_vt (pre := R) (Φ := F) mixed (sgAt_all (P := Try.prog) (pre := R) (Φ := F) (l := sg15) ((fun _ h => nomatch h))) Try.func15 b15 n15 (loops_n 1 k15 fun k hk => match k, hk with | 0, _ => loop_this lf15_0 loopM15_0) e15 fun ds hf hq => ?_
  obtain ⟨g, ds', rfl, h5, _⟩ := fitsG hf.flat
  have e0 := fits0 h5
  subst e0
  have hq : g.E.length ≤ 1000000 := hq
  have hpre : prSkR [.i 0, .s g.nm, .b g.dr, .l g.N, .l g.E, .l g.C, .i (g.N.length : Int), .l []] := ⟨0, _, _, _, g.E, _, _, [], rfl, by omega, hq, rfl⟩
  simp only [vt15, VT.ok, Nd.holds, X.outs, X.ds, X.d, Op1.ev, takeD_zero, takeD_cons, List.cons_append, List.nil_append, List.getD_cons_zero, List.getD_cons_succ, D.bool_b, D.lst_l, and_true, F11500, R11500, F15, lpSkR, skD, cL, Int.toNat_zero, List.nil_append]
  exact fun _ => hpre
end Go.Proofs.Ytjdhicmkkmfcgaa.rv
