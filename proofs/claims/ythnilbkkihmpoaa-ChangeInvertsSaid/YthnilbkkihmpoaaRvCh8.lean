/-
  Changes of graphs: inverse edits, as the reference finds them; runs of edits.
-/
import Derived.Test.YthnilbkkihmpoaaRvCh7
namespace Go.Proofs.Ythnilbkkihmpoaa.rv
open Go.RV
set_option maxRecDepth 10000

theorem m14 : Meets Try.prog 14 S14 (R 14) (F 14) := by
  refine meets_of_vt (pre := R) (Φ := F) mixed (sgAt_all (P := Try.prog) (pre := R) (Φ := F) (l := sg14) (List.forall_mem_cons.2 ⟨Meets.at (pre := R) (Φ := F) m11, List.forall_mem_cons.2 ⟨Meets.at (pre := R) (Φ := F) m34, (fun _ h => nomatch h)⟩⟩)) Try.func14 b14 n14 (loops_n 0 k14 fun k hk => by omega) e14 fun ds hf hq => ?_
  obtain ⟨g, ds', rfl, h5, _, ⟨_, hN⟩, _⟩ := fitsG hf.flat
  obtain ⟨Y, ds'', rfl, hY, hat, h6⟩ := fitsX h5
  have e0 := fits0 h6
  subst e0
  rw [List.append_nil] at *
  have hF : F 14 (.s g.nm :: .b g.dr :: .l g.N :: .l g.E :: .l g.C :: Y) = [.l (invG g Y).1, .i (invG g Y).2] := rfl
  rw [hF]
  have hA := applyL g Y
  by_cases hz : (applyG g Y).2 = 0
  · obtain ⟨hv, hfit, hin, _, _⟩ := apply_ok hz
    obtain ⟨⟨hn1, hn2, hn3⟩, _⟩ := valid_parts hv
    have hkk := fits_kind hfit
    generalize hr : invG g Y = rr
    unfold invG at hr
    rw [if_pos hz] at hr
    rw [hz] at hA
    obtain ⟨k, a, s, t, w, h, c, ps, p, q, r, u, lb, wt, ln, hx⟩ := hY
    have hk : cI Y 0 = k := by rw [hx]; rfl
    have ha : cI Y 1 = a := by rw [hx]; rfl
    have ha2 : gc Y 1 = .i a := by rw [hx]; rfl
    rw [hk, ha, ha2] at hr
    rw [hk] at hkk
    rw [ha] at hat
    have hins : insB g Y = if (k == 1) = true then true else if (k == 3) = true then true else if (k == 4) = true then decide (0 ≤ a) && decide (a < (g.E.length : Int)) else decide (0 ≤ a) && decide (a < (g.N.length : Int)) := by unfold insB; rw [hk, ha]
    rw [hins] at hin
    have hw1 : IntKind.i64.wrap ((g.E.length : Int) - 1) = (g.E.length : Int) - 1 := w64 (by omega)
    have hw2 : IntKind.i64.wrap ((g.N.length : Int) - 1) = (g.N.length : Int) - 1 := w64 (by omega)
    rw [hx] at hA ⊢
    rcases hkk with rfl | rfl | rfl | rfl | rfl | rfl
    · simp only [beq_self_eq_true, if_true] at hr
      subst hr
      simp only [vt14, VT.ok, Nd.holds, X.outs, X.ds, X.d, Op1.ev, Op2.ev, takeD_zero, takeD_cons, List.cons_append, List.nil_append, List.getD_cons_zero, List.getD_cons_succ, D.int_i, D.bool_b, D.lst_l, if_true, Bool.false_eq_true, if_false, implies_true, true_and, F11, R11, F34, R34, hA, beq_self_eq_true, Bool.not_true]
      exact rfl
    · -- a node comes back
      simp only [show ((2 : Int) == 1) = false from rfl, show ((2 : Int) == 3) = false from rfl, show ((2 : Int) == 4) = false from rfl, show ((2 : Int) == 5) = false from rfl, show ((2 : Int) == 6) = false from rfl, Bool.false_eq_true, if_false, Bool.and_eq_true, decide_eq_true_eq] at hr hin
      obtain ⟨n, rfl⟩ := Int.eq_ofNat_of_zero_le hin.1
      have hlt : n < g.N.length := by omega
      have hrt : rtD [.s g.nm, .b g.dr, .l g.N, .l g.E, .l g.C] = if anyN (badE g.E ((g.N.length : Int) - 1)) g.E.length = true then [.l [], .b false] else [.l (bkR (edit (.i 1) (.i 0) (el g.N (g.N.length - 1)) zE) g.E ((g.N.length : Int) - 1) g.E.length), .b true] := rfl
      have hrp : prRtF [.s g.nm, .b g.dr, .l g.N, .l g.E, .l g.C] := ⟨by show 0 < g.N.length; omega, by show g.N.length ≤ 1000000; omega, by show g.E.length ≤ 1000000; omega⟩
      by_cases hl : (n : Int) = (g.N.length : Int) - 1
      · have c3 : ((n : Int) == (g.N.length : Int) - 1) = true := by simpa using hl
        have hn' : n = g.N.length - 1 := by omega
        rw [Int.toNat_natCast] at hr
        rw [← hl, ← hn'] at hrt
        cases h3 : anyN (badE g.E (n : Int)) g.E.length with
        | true =>
          rw [if_neg (by rw [h3]; simp)] at hr
          subst hr
          rw [h3] at hrt
          simp only [if_true] at hrt
          simp only [vt14, VT.ok, Nd.holds, X.outs, X.ds, X.d, Op1.ev, Op2.ev, takeD_zero, takeD_cons, List.cons_append, List.nil_append, List.getD_cons_zero, List.getD_cons_succ, D.int_i, D.bool_b, D.lst_l, Int.toNat_natCast, if_true, Bool.false_eq_true, if_false, implies_true, true_and, and_true, F11, R11, F34, R34, hA, hrt, beq_self_eq_true, Bool.not_true, hw2, c3]
          exact fun _ => hrp
        | false =>
          rw [if_pos ⟨hl, h3⟩] at hr
          subst hr
          rw [h3] at hrt
          simp only [Bool.false_eq_true, if_false] at hrt
          simp only [vt14, VT.ok, Nd.holds, X.outs, X.ds, X.d, Op1.ev, Op2.ev, takeD_zero, takeD_cons, List.cons_append, List.nil_append, List.getD_cons_zero, List.getD_cons_succ, D.int_i, D.bool_b, D.lst_l, Int.toNat_natCast, if_true, Bool.false_eq_true, if_false, implies_true, true_and, F11, R11, F34, R34, hA, hrt, beq_self_eq_true, Bool.not_true, hw2, c3]
          refine ⟨fun _ => hrp, ?_⟩
          show [D.l (bkR _ g.E (n : Int) g.E.length), D.i 0] = _
          rw [bkR, List.take_length]
      · have c3 : ((n : Int) == (g.N.length : Int) - 1) = false := by simpa using hl
        rw [if_neg (fun h => hl h.1)] at hr
        subst hr
        obtain ⟨z1, z2, hz2⟩ : ∃ z1 z2, rtD [.s g.nm, .b g.dr, .l g.N, .l g.E, .l g.C] = [z1, z2] := by
          rw [hrt]
          split
          · exact ⟨_, _, rfl⟩
          · exact ⟨_, _, rfl⟩
        simp only [vt14, VT.ok, Nd.holds, X.outs, X.ds, X.d, Op1.ev, Op2.ev, takeD_zero, takeD_cons, List.cons_append, List.nil_append, List.getD_cons_zero, List.getD_cons_succ, D.int_i, D.bool_b, D.lst_l, Int.toNat_natCast, if_true, Bool.false_eq_true, if_false, implies_true, true_and, and_true, F11, R11, F34, R34, hA, hz2, beq_self_eq_true, Bool.not_true, hw2, c3]
        exact fun _ => hrp
    · simp only [show ((3 : Int) == 1) = false from rfl, beq_self_eq_true, if_true, Bool.false_eq_true, if_false] at hr
      subst hr
      simp only [vt14, VT.ok, Nd.holds, X.outs, X.ds, X.d, Op1.ev, Op2.ev, takeD_zero, takeD_cons, List.cons_append, List.nil_append, List.getD_cons_zero, List.getD_cons_succ, D.int_i, D.bool_b, D.lst_l, if_true, Bool.false_eq_true, if_false, implies_true, true_and, F11, R11, F34, R34, hA, beq_self_eq_true, Bool.not_true, show ((3 : Int) == 1) = false from rfl]
      exact rfl
    · -- an edge comes back
      simp only [show ((4 : Int) == 1) = false from rfl, show ((4 : Int) == 3) = false from rfl, show ((4 : Int) == 5) = false from rfl, show ((4 : Int) == 6) = false from rfl, beq_self_eq_true, if_true, Bool.false_eq_true, if_false, Bool.and_eq_true, decide_eq_true_eq] at hr hin
      obtain ⟨n, rfl⟩ := Int.eq_ofNat_of_zero_le hin.1
      have c1 : decide ((0 : Int) ≤ (n : Int)) = true := decide_eq_true (by omega)
      have c2 : decide ((n : Int) < (g.E.length : Int)) = true := decide_eq_true (by omega)
      by_cases hl : (n : Int) = (g.E.length : Int) - 1
      · have c3 : ((n : Int) == (g.E.length : Int) - 1) = true := by simpa using hl
        rw [if_pos hl, Int.toNat_natCast] at hr
        subst hr
        simp only [vt14, VT.ok, Nd.holds, X.outs, X.ds, X.d, Op1.ev, Op2.ev, takeD_zero, takeD_cons, List.cons_append, List.nil_append, List.getD_cons_zero, List.getD_cons_succ, D.int_i, D.bool_b, D.lst_l, Int.toNat_natCast, if_true, Bool.false_eq_true, if_false, implies_true, true_and, F11, R11, F34, R34, hA, beq_self_eq_true, Bool.not_true, hw1, c1, c2, c3]
        exact rfl
      · have c3 : ((n : Int) == (g.E.length : Int) - 1) = false := by simpa using hl
        rw [if_neg hl] at hr
        subst hr
        simp only [vt14, VT.ok, Nd.holds, X.outs, X.ds, X.d, Op1.ev, Op2.ev, takeD_zero, takeD_cons, List.cons_append, List.nil_append, List.getD_cons_zero, List.getD_cons_succ, D.int_i, D.bool_b, D.lst_l, Int.toNat_natCast, if_true, Bool.false_eq_true, if_false, implies_true, true_and, F11, R11, F34, R34, hA, beq_self_eq_true, Bool.not_true, hw1, c1, c2, c3]
        exact trivial
    · simp only [show ((5 : Int) == 1) = false from rfl, show ((5 : Int) == 3) = false from rfl, show ((5 : Int) == 4) = false from rfl, beq_self_eq_true, if_true, Bool.false_eq_true, if_false, Bool.and_eq_true, decide_eq_true_eq] at hr hin
      obtain ⟨n, rfl⟩ := Int.eq_ofNat_of_zero_le hin.1
      have c1 : decide ((0 : Int) ≤ (n : Int)) = true := decide_eq_true (by omega)
      have c2 : decide ((n : Int) < (g.N.length : Int)) = true := decide_eq_true (by omega)
      subst hr
      simp only [vt14, VT.ok, Nd.holds, X.outs, X.ds, X.d, Op1.ev, Op2.ev, takeD_zero, takeD_cons, List.cons_append, List.nil_append, List.getD_cons_zero, List.getD_cons_succ, D.int_i, D.bool_b, D.lst_l, Int.toNat_natCast, if_true, Bool.false_eq_true, if_false, implies_true, true_and, F11, R11, F34, R34, hA, beq_self_eq_true, Bool.not_true, c1, c2]
      exact rfl
    · simp only [show ((6 : Int) == 1) = false from rfl, show ((6 : Int) == 3) = false from rfl, show ((6 : Int) == 4) = false from rfl, show ((6 : Int) == 5) = false from rfl, beq_self_eq_true, if_true, Bool.false_eq_true, if_false, Bool.and_eq_true, decide_eq_true_eq] at hr hin
      obtain ⟨n, rfl⟩ := Int.eq_ofNat_of_zero_le hin.1
      have c1 : decide ((0 : Int) ≤ (n : Int)) = true := decide_eq_true (by omega)
      have c2 : decide ((n : Int) < (g.N.length : Int)) = true := decide_eq_true (by omega)
      subst hr
      simp only [vt14, VT.ok, Nd.holds, X.outs, X.ds, X.d, Op1.ev, Op2.ev, takeD_zero, takeD_cons, List.cons_append, List.nil_append, List.getD_cons_zero, List.getD_cons_succ, D.int_i, D.bool_b, D.lst_l, Int.toNat_natCast, if_true, Bool.false_eq_true, if_false, implies_true, true_and, F11, R11, F34, R34, hA, beq_self_eq_true, Bool.not_true, c1, c2]
      exact rfl
  · rw [inv_err hz]
    generalize applyG g Y = rr at hA hz
    obtain ⟨k, a, s, t, w, h, c, ps, p, q, r, u, lb, wt, ln, hx⟩ := hY
    rw [hx] at hA ⊢
    simp only [vt14, VT.ok, Nd.holds, X.outs, X.ds, X.d, Op1.ev, Op2.ev, takeD_zero, takeD_cons, List.cons_append, List.nil_append, List.getD_cons_zero, List.getD_cons_succ, D.int_i, D.bool_b, D.lst_l, if_true, implies_true, and_true, F11, R11, F34, R34, hA, beq_f hz, Bool.not_false]


theorem applyR (g : Gd) (x : List D) : applyD [.s g.nm, .b g.dr, .l g.N, .l g.E, .l g.C, gc x 0, gc x 1, gc x 2, gc x 3, gc x 4, gc x 5, gc x 6, gc x 7, gc x 8, gc x 9, gc x 10, gc x 11, gc x 12, gc x 13, gc x 14] = [.s (applyG g x).1.nm, .b (applyG g x).1.dr, .l (applyG g x).1.N, .l (applyG g x).1.E, .l (applyG g x).1.C, .i (applyG g x).2] := rfl
theorem drop_el {l : List (List D)} {j : Nat} (h : j < l.length) : l.drop j = el l j :: l.drop (j + 1) := by
  rw [List.drop_eq_getElem_cons h]
  simp [el, List.getD, h]
theorem runS_next {g : Gd} {l : List (List D)} {j : Nat} (h : j < l.length) (h0 : (applyG g (el l j)).2 = 0) : runS g (l.drop j) j = runS (applyG g (el l j)).1 (l.drop (j + 1)) (j + 1) := by
  rw [drop_el h, runS, if_pos h0]
theorem runS_stop {g : Gd} {l : List (List D)} {j : Nat} (h : j < l.length) (h0 : (applyG g (el l j)).2 ≠ 0) : runS g (l.drop j) j = (g, j, (applyG g (el l j)).2) := by
  rw [drop_el h, runS, if_neg h0]
theorem runS_end {g : Gd} {l : List (List D)} : runS g (l.drop l.length) l.length = (g, l.length, 0) := by
  rw [List.drop_length]; rfl
theorem loopM16_0 : LoopMeets Try.prog F (R L16_0.key) L16_0 lb16_0 := by
  refine loop_meets (pre := R) mixed (sgAt_all (P := Try.prog) (pre := R) (Φ := F) (l := sg16) (List.forall_mem_cons.2 ⟨Meets.at (pre := R) (Φ := F) m21, List.forall_mem_cons.2 ⟨Meets.at (pre := R) (Φ := F) m23q, List.forall_mem_cons.2 ⟨Meets.at (pre := R) (Φ := F) m10, (fun _ h => nomatch h)⟩⟩⟩)) (loops_n 0 lk16_0 fun k hk => by omega) L16_0 (fun ρ => ((ρ.getD 3 default).int - (ρ.getD 4 default).int).toNat) le16_0 fun ρ _ hq => ?_
  obtain ⟨a, b, l, z1, z2, z3, z4, z5, g, j, rfl, hj, hm, hp⟩ : prRunL ρ := hq
  rw [maxLen_val] at hm
  by_cases hlt : j < l.length
  · have hA := applyR g (el l j)
    have hps : prApply [.s g.nm, .b g.dr, .l g.N, .l g.E, .l g.C, gc (el l j) 0, gc (el l j) 1, gc (el l j) 2, gc (el l j) 3, gc (el l j) 4, gc (el l j) 5, gc (el l j) 6, gc (el l j) 7, gc (el l j) 8, gc (el l j) 9, gc (el l j) 10, gc (el l j) 11, gc (el l j) 12, gc (el l j) 13, gc (el l j) 14] := hp j hlt
    simp (disch := omega) only [rt16_0, VT.ok, Nd.holds, X.outs, X.ds, X.d, Op1.ev, Op2.ev, takeD_zero, takeD_cons, List.cons_append, List.nil_append, List.getD_cons_zero, List.getD_cons_succ, D.int_i, D.bool_b, D.lst_l, Int.toNat_natCast, implies_true, true_and, F10, R10, ↓reduceIte, dle_t, dlt_t, w64', hA]
    refine ⟨fun _ => hps, ?_⟩
    by_cases h0 : (applyG g (el l j)).2 = 0
    · have e := runS_next hlt h0
      rw [h0]
      simp only [beq_self_eq_true, Bool.not_true, Bool.false_eq_true, if_false]
      refine round_next ⟨⟨a, b, l, z1, z2, z3, z4, z5, (applyG g (el l j)).1, j + 1, rfl, by omega, by rw [maxLen_val]; omega, hp⟩, ?_, ?_⟩
      · show ((l.length : Int) - ((j + 1 : Nat) : Int)).toNat < ((l.length : Int) - (j : Int)).toNat
        omega
      · show lpRun [a, b, .l l, .i (l.length : Int), .i ((j + 1 : Nat) : Int), z1, z2, z3, z4, z5, .s (applyG g (el l j)).1.nm, .b (applyG g (el l j)).1.dr, .l (applyG g (el l j)).1.N, .l (applyG g (el l j)).1.E, .l (applyG g (el l j)).1.C] = lpRun [a, b, .l l, .i (l.length : Int), .i (j : Int), z1, z2, z3, z4, z5, .s g.nm, .b g.dr, .l g.N, .l g.E, .l g.C]
        simp only [lpRun, Int.toNat_natCast, e]
    · have e := runS_stop hlt h0
      have h0' : (!((applyG g (el l j)).2 == 0)) = true := by simpa using h0
      rw [if_pos h0']
      refine round_exit (by omega) ?_
      show lpRun [a, b, .l l, .i (l.length : Int), .i (j : Int), z1, z2, z3, z4, z5, .s g.nm, .b g.dr, .l g.N, .l g.E, .l g.C] = _
      simp only [lpRun, Int.toNat_natCast, e]
      rw [if_neg h0]
      rfl
  · have hj' : j = l.length := by omega
    subst hj'
    have e := runS_end (g := g) (l := l)
    simp (disch := omega) only [rt16_0, VT.ok, X.ds, X.d, Op2.ev, List.getD_cons_zero, List.getD_cons_succ, D.int_i, D.bool_b, Bool.false_eq_true, ↓reduceIte, dlt_f]
    refine round_exit (by omega) ?_
    show lpRun [a, b, .l l, .i (l.length : Int), .i (l.length : Int), z1, z2, z3, z4, z5, .s g.nm, .b g.dr, .l g.N, .l g.E, .l g.C] = _
    simp only [lpRun, Int.toNat_natCast, e, if_true]
    rfl
theorem loopM17_0 : LoopMeets Try.prog F (R L17_0.key) L17_0 lb17_0 := by
  refine loop_meets (pre := R) mixed (sgAt_all (P := Try.prog) (pre := R) (Φ := F) (l := sg17) (List.forall_mem_cons.2 ⟨Meets.at (pre := R) (Φ := F) m28, List.forall_mem_cons.2 ⟨Meets.at (pre := R) (Φ := F) m11, (fun _ h => nomatch h)⟩⟩)) (loops_n 0 lk17_0 fun k hk => by omega) L17_0 (fun ρ => (((ρ.getD 0 default).lst.length : Int) - (ρ.getD 3 default).int).toNat) le17_0 fun ρ _ hq => ?_
  obtain ⟨a, b, l, z1, z2, z3, z4, z5, g, j, rfl, hj, hm⟩ : prRunR ρ := hq
  rw [maxLen_val] at hm
  by_cases hlt : j < l.length
  · have hA := applyR g (el l j)
    simp (disch := omega) only [rt17_0, VT.ok, Nd.holds, X.outs, X.ds, X.d, Op1.ev, Op2.ev, takeD_zero, takeD_cons, List.cons_append, List.nil_append, List.getD_cons_zero, List.getD_cons_succ, D.int_i, D.bool_b, D.lst_l, Int.toNat_natCast, implies_true, true_and, F11, R11, ↓reduceIte, dle_t, dlt_t, w64', hA]
    by_cases h0 : (applyG g (el l j)).2 = 0
    · have e := runS_next hlt h0
      rw [h0]
      simp only [beq_self_eq_true, Bool.not_true, Bool.false_eq_true, if_false]
      refine round_next ⟨⟨a, b, l, z1, z2, z3, z4, z5, (applyG g (el l j)).1, j + 1, rfl, by omega, by rw [maxLen_val]; omega⟩, ?_, ?_⟩
      · show ((l.length : Int) - ((j + 1 : Nat) : Int)).toNat < ((l.length : Int) - (j : Int)).toNat
        omega
      · show lpRunR [.l l, a, b, .i ((j + 1 : Nat) : Int), .s (applyG g (el l j)).1.nm, .b (applyG g (el l j)).1.dr, .l (applyG g (el l j)).1.N, .l (applyG g (el l j)).1.E, .l (applyG g (el l j)).1.C, z1, z2, z3, z4, z5] = lpRunR [.l l, a, b, .i (j : Int), .s g.nm, .b g.dr, .l g.N, .l g.E, .l g.C, z1, z2, z3, z4, z5]
        simp only [lpRunR, Int.toNat_natCast, e]
    · have e := runS_stop hlt h0
      have h0' : (!((applyG g (el l j)).2 == 0)) = true := by simpa using h0
      rw [if_pos h0']
      refine round_exit (by omega) ?_
      show lpRunR [.l l, a, b, .i (j : Int), .s g.nm, .b g.dr, .l g.N, .l g.E, .l g.C, z1, z2, z3, z4, z5] = _
      simp only [lpRunR, Int.toNat_natCast, e]
      rw [if_neg h0]
      rfl
  · have hj' : j = l.length := by omega
    subst hj'
    have e := runS_end (g := g) (l := l)
    simp (disch := omega) only [rt17_0, VT.ok, X.ds, X.d, Op1.ev, Op2.ev, List.getD_cons_zero, List.getD_cons_succ, D.int_i, D.bool_b, D.lst_l, Bool.false_eq_true, ↓reduceIte, dlt_f]
    refine round_exit (by omega) ?_
    show lpRunR [.l l, a, b, .i (l.length : Int), .s g.nm, .b g.dr, .l g.N, .l g.E, .l g.C, z1, z2, z3, z4, z5] = _
    simp only [lpRunR, Int.toNat_natCast, e, if_true]
    rfl
theorem runL (g : Gd) (l : List (List D)) : runD [.s g.nm, .b g.dr, .l g.N, .l g.E, .l g.C, .l l] = [.s (runG g l).1.nm, .b (runG g l).1.dr, .l (runG g l).1.N, .l (runG g l).1.E, .l (runG g l).1.C, .i (runG g l).2.1, .i (runG g l).2.2] := rfl
theorem m16 : Meets Try.prog 16 S16 (R 16) (F 16) := by
  refine meets_of_vt (pre := R) (Φ := F) mixed (sgAt_all (P := Try.prog) (pre := R) (Φ := F) (l := sg16) (List.forall_mem_cons.2 ⟨Meets.at (pre := R) (Φ := F) m21, List.forall_mem_cons.2 ⟨Meets.at (pre := R) (Φ := F) m23q, List.forall_mem_cons.2 ⟨Meets.at (pre := R) (Φ := F) m10, (fun _ h => nomatch h)⟩⟩⟩)) Try.func16 b16 n16 (loops_n 1 k16 fun k hk => match k, hk with | 0, _ => loop_this lf16_0 loopM16_0) e16 fun ds hf hq => ?_
  obtain ⟨g, ds', rfl, h5, _, ⟨_, hN⟩, _⟩ := fitsG hf.flat
  obtain ⟨y, rfl, hy⟩ := fits1 h5
  obtain ⟨l, rfl, hm, _⟩ := wf_sl hy
  have hq : ∀ i, i < l.length → (cL (el l i) 7).length ≤ 1000000 := hq
  rw [show F 16 [.s g.nm, .b g.dr, .l g.N, .l g.E, .l g.C, .l l] = _ from runL g l]
  generalize hr : runG g l = rr
  unfold runG at hr
  by_cases hv : validE g = 0
  · have hcp := clone_pre hv
    have p0 : prRunL [.i 0, .i 0, .l l, .i (l.length : Int), .i 0, .s ⟨#[]⟩, .b false, .l [], .l [], .l [], .s g.nm, .b g.dr, .l g.N, .l g.E, .l g.C] := ⟨_, _, l, _, _, _, _, _, g, 0, rfl, by omega, hm, hq⟩
    rw [if_pos hv] at hr
    have hv' : validE ⟨g.nm, g.dr, g.N, g.E, g.C⟩ = 0 := hv
    simp only [vt16, VT.ok, Nd.holds, X.outs, X.ds, X.d, Op1.ev, Op2.ev, takeD_zero, takeD_cons, List.cons_append, List.nil_append, List.getD_cons_zero, List.getD_cons_succ, D.int_i, D.bool_b, D.lst_l, Bool.false_eq_true, if_false, implies_true, true_and, F21, R21, F23, R23, F11600, R11600, validL, cloneD, hv', beq_self_eq_true, Bool.not_true]
    refine ⟨fun _ => hcp, fun _ => p0, ?_⟩
    simp only [lpRun, Int.toNat_zero, List.drop_zero]
    by_cases h0 : (runS g l 0).2.2 = 0
    · rw [if_pos h0] at hr
      subst hr
      rw [if_pos h0]
      exact rfl
    · rw [if_neg h0] at hr
      subst hr
      rw [if_neg h0]
      exact rfl
  · rw [if_neg hv] at hr
    subst hr
    have hv' : validE ⟨g.nm, g.dr, g.N, g.E, g.C⟩ ≠ 0 := hv
    simp only [vt16, VT.ok, Nd.holds, X.outs, X.ds, X.d, Op1.ev, Op2.ev, takeD_zero, takeD_cons, List.cons_append, List.nil_append, List.getD_cons_zero, List.getD_cons_succ, D.int_i, D.bool_b, D.lst_l, if_true, implies_true, true_and, F21, R21, F23, R23, F11600, R11600, validL, beq_f hv', Bool.not_false]
    exact rfl
theorem m17 : Meets Try.prog 17 S17 (R 17) (F 17) := by
  refine meets_of_vt (pre := R) (Φ := F) mixed (sgAt_all (P := Try.prog) (pre := R) (Φ := F) (l := sg17) (List.forall_mem_cons.2 ⟨Meets.at (pre := R) (Φ := F) m28, List.forall_mem_cons.2 ⟨Meets.at (pre := R) (Φ := F) m11, (fun _ h => nomatch h)⟩⟩)) Try.func17 b17 n17 (loops_n 1 k17 fun k hk => match k, hk with | 0, _ => loop_this lf17_0 loopM17_0) e17 fun ds hf hq => ?_
  obtain ⟨g, ds', rfl, h5, _, ⟨_, hN⟩, _⟩ := fitsG hf.flat
  obtain ⟨y, rfl, hy⟩ := fits1 h5
  obtain ⟨l, rfl, hm, _⟩ := wf_sl hy
  rw [show F 17 [.s g.nm, .b g.dr, .l g.N, .l g.E, .l g.C, .l l] = _ from runL g l]
  generalize hr : runG g l = rr
  unfold runG at hr
  by_cases hv : validE g = 0
  · have p0 : prRunR [.l l, .i 0, .i 0, .i 0, .s g.nm, .b g.dr, .l g.N, .l g.E, .l g.C, .s ⟨#[]⟩, .b false, .l [], .l [], .l []] := ⟨_, _, l, _, _, _, _, _, g, 0, rfl, by omega, hm⟩
    rw [if_pos hv] at hr
    have hv' : validE ⟨g.nm, g.dr, g.N, g.E, g.C⟩ = 0 := hv
    simp only [vt17, VT.ok, Nd.holds, X.outs, X.ds, X.d, Op1.ev, Op2.ev, takeD_zero, takeD_cons, List.cons_append, List.nil_append, List.getD_cons_zero, List.getD_cons_succ, D.int_i, D.bool_b, D.lst_l, Bool.false_eq_true, if_false, implies_true, true_and, F28, R28, F11700, R11700, validL, hv', beq_self_eq_true, Bool.not_true]
    refine ⟨fun _ => p0, ?_⟩
    simp only [lpRunR, Int.toNat_zero, List.drop_zero]
    by_cases h0 : (runS g l 0).2.2 = 0
    · rw [if_pos h0] at hr
      subst hr
      rw [if_pos h0]
      exact rfl
    · rw [if_neg h0] at hr
      subst hr
      rw [if_neg h0]
      exact rfl
  · rw [if_neg hv] at hr
    subst hr
    have hv' : validE ⟨g.nm, g.dr, g.N, g.E, g.C⟩ ≠ 0 := hv
    simp only [vt17, VT.ok, Nd.holds, X.outs, X.ds, X.d, Op1.ev, Op2.ev, takeD_zero, takeD_cons, List.cons_append, List.nil_append, List.getD_cons_zero, List.getD_cons_succ, D.int_i, D.bool_b, D.lst_l, if_true, implies_true, true_and, F28, R28, F11700, R11700, validL, beq_f hv', Bool.not_false]
    exact rfl
end Go.Proofs.Ythnilbkkihmpoaa.rv
