/-
  Changes of graphs: inverse edits.
-/
import Derived.Test.YthnilbkkihmpoaaRvCh6
namespace Go.Proofs.Ythnilbkkihmpoaa.rv
open Go.RV
set_option maxRecDepth 10000

theorem apply_ok {g : Gd} {x : List D} (h : (applyG g x).2 = 0) : validE g = 0 ∧ fitsB x = true ∧ insB g x = true ∧ validE (doneG g x) = 0 ∧ applyG g x = (doneG g x, 0) := by
  by_cases h1 : validE g = 0 ∧ fitsB x = true
  · by_cases h2 : insB g x = true
    · rw [apply_in h1.1 h1.2 h2] at h ⊢
      by_cases h3 : validE (doneG g x) = 0
      · rw [if_pos h3]; exact ⟨h1.1, h1.2, h2, h3, rfl⟩
      · rw [if_neg h3] at h; exact absurd h h3
    · rw [apply_out h1.1 h1.2 h2] at h; simp at h
  · rw [apply_bad h1] at h; simp at h
theorem bk_next {f : List D} {E : List (List D)} {a : Int} {j : Nat} (h : j < E.length) : bkR f E a (j + 1) = bkR f E a j ++ bk a (el E j) := by
  unfold bkR
  rw [take_flat h]; rfl
theorem bk_len1 (a : Int) (x : List D) : (bk a x).length ≤ 1 := by unfold bk; split <;> simp
theorem bkR_len (f : List D) (E : List (List D)) (a : Int) : ∀ j, (bkR f E a j).length ≤ j + 1 := by
  intro j
  have : ∀ l : List (List D), (l.flatMap (bk a)).length ≤ l.length := by
    intro l
    induction l with
    | nil => simp
    | cons x xs ih =>
      have := bk_len1 a x
      rw [List.flatMap_cons, List.length_append, List.length_cons]
      omega
  have h := this (E.take j)
  unfold bkR
  simp only [List.length_cons, List.length_take] at h ⊢
  omega
theorem bk_any {f : List D} {E : List (List D)} {a : Int} : ∀ {j : Nat}, j ≤ E.length → decide (1 < ((bkR f E a j).length : Int)) = anyN (fun k => tch a (el E k)) j
  | 0, _ => by
    have e : anyN (fun k => tch a (el E k)) 0 = false := anyN_false.2 fun k hk => by omega
    rw [e]
    exact decide_eq_false (by simp [bkR])
  | j + 1, hj => by
    have ih := bk_any (f := f) (E := E) (a := a) (j := j) (by omega)
    rw [bk_next (by omega), List.length_append]
    have hpos : 1 ≤ (bkR f E a j).length := by simp [bkR]
    cases ht : tch a (el E j) with
    | true =>
      have e : anyN (fun k => tch a (el E k)) (j + 1) = true := anyN_iff.2 ⟨j, by omega, ht⟩
      rw [e]
      have : (bk a (el E j)).length = 1 := by rw [bk, if_pos ht]; rfl
      exact decide_eq_true (by omega)
    | false =>
      have : (bk a (el E j)).length = 0 := by rw [bk, if_neg (by rw [ht]; decide)]; rfl
      rw [this, Nat.add_zero, ih]
      cases h1 : anyN (fun k => tch a (el E k)) j with
      | true =>
        obtain ⟨k, hk, hk2⟩ := anyN_iff.1 h1
        exact (anyN_iff.2 ⟨k, by omega, hk2⟩).symm
      | false =>
        refine (anyN_false.2 fun k hk => ?_).symm
        by_cases e : k = j
        · rw [e]; exact ht
        · exact anyN_false.1 h1 k (by omega)
theorem loopM13_0 : LoopMeets Try.prog F (R L13_0.key) L13_0 lb13_0 := by
  refine loop_meets (pre := R) mixed (sgAt_all (P := Try.prog) (pre := R) (Φ := F) (l := sg13) (List.forall_mem_cons.2 ⟨Meets.at (pre := R) (Φ := F) m10, List.forall_mem_cons.2 ⟨Meets.at (pre := R) (Φ := F) m24, List.forall_mem_cons.2 ⟨Meets.at (pre := R) (Φ := F) m33, (fun _ h => nomatch h)⟩⟩⟩)) (loops_n 0 lk13_0 fun k hk => by omega) L13_0 (fun ρ => ((ρ.getD 3 default).int - (ρ.getD 4 default).int).toNat) le13_0 fun ρ _ hq => ?_
  obtain ⟨v, w, E, c, a, c2, c3, c4, c5, c6, c7, c8, c9, c10, c11, c12, c13, c14, f, j, rfl, hj, hm⟩ : prIv ρ := hq
  by_cases hlt : j < E.length
  · have hN : badE E a j = false → ∀ acc, acc = bkR f E a j ++ bk a (el E j) → RoundOk F (R L13_0.key) (fun ρ => ((ρ.getD 3 default).int - (ρ.getD 4 default).int).toNat) L13_0 [v, w, .l E, .i (E.length : Int), .i (j : Int), c, .i a, c2, c3, c4, c5, c6, c7, c8, c9, c10, c11, c12, c13, c14, .l (bkR f E a j)] [.i (-1), v, w, .i ((j : Int) + 1), .l acc] := fun hb acc e => by
      rw [← bk_next hlt] at e
      subst e
      refine round_next ⟨⟨v, w, E, c, a, c2, c3, c4, c5, c6, c7, c8, c9, c10, c11, c12, c13, c14, f, j + 1, rfl, by omega, hm⟩, ?_, ?_⟩
      · show ((E.length : Int) - ((j + 1 : Nat) : Int)).toNat < ((E.length : Int) - (j : Int)).toNat
        omega
      · show lpIv [v, w, .l E, .i (E.length : Int), .i ((j + 1 : Nat) : Int), c, .i a, c2, c3, c4, c5, c6, c7, c8, c9, c10, c11, c12, c13, c14, .l (f :: (E.take (j + 1)).flatMap (bk a))] = lpIv [v, w, .l E, .i (E.length : Int), .i (j : Int), c, .i a, c2, c3, c4, c5, c6, c7, c8, c9, c10, c11, c12, c13, c14, .l (f :: (E.take j).flatMap (bk a))]
        simp only [lpIv, Int.toNat_natCast]
        exact scan_next hlt hb
    have hl : ∀ z : List D, decide (((bkR f E a j ++ [z]).length : Int) ≤ 879609302220) = true := fun z => decide_eq_true (by
      have := bkR_len f E a j
      simp
      omega)
    have ht : tch a [gc (el E j) 0, gc (el E j) 1] = tch a (el E j) := rfl
    have hany := bk_any (f := f) (a := a) hj
    simp (disch := omega) only [rt13_0, VT.ok, Nd.holds, X.outs, X.ds, X.d, Op1.ev, Op2.ev, takeD_zero, takeD_cons, List.cons_append, List.nil_append, List.getD_cons_zero, List.getD_cons_succ, D.int_i, D.bool_b, D.lst_l, Int.toNat_natCast, implies_true, true_and, F33, R33, ↓reduceIte, dle_t, dlt_t, w64', touch_eq, ht, hl, hany]
    cases hb : tch a (el E j) with
    | true =>
      simp only [if_true]
      exact hN (by rw [badE, hb]; rfl) _ (by rw [bk, if_pos hb]; rfl)
    | false =>
      simp only [Bool.false_eq_true, if_false]
      cases h2 : anyN (fun k => tch a (el E k)) j with
      | true =>
        simp only [if_true]
        refine round_exit (by omega) ?_
        show lpIv [v, w, .l E, .i (E.length : Int), .i (j : Int), c, .i a, c2, c3, c4, c5, c6, c7, c8, c9, c10, c11, c12, c13, c14, .l (f :: (E.take j).flatMap (bk a))] = _
        simp only [lpIv, Int.toNat_natCast]
        exact scan_hit hlt (by rw [badE, hb, h2]; rfl)
      | false =>
        simp only [Bool.false_eq_true, if_false]
        exact hN (by rw [badE, hb, h2]; rfl) _ (by rw [bk, if_neg (by rw [hb]; decide), List.append_nil])
  · have hj' : j = E.length := by omega
    subst hj'
    simp (disch := omega) only [rt13_0, VT.ok, X.ds, X.d, Op2.ev, List.getD_cons_zero, List.getD_cons_succ, D.int_i, D.bool_b, Bool.false_eq_true, ↓reduceIte, dlt_f]
    refine round_exit (by omega) ?_
    show lpIv [v, w, .l E, .i (E.length : Int), .i (E.length : Int), c, .i a, c2, c3, c4, c5, c6, c7, c8, c9, c10, c11, c12, c13, c14, .l (f :: (E.take E.length).flatMap (bk a))] = _
    simp only [lpIv, Int.toNat_natCast]
    exact scan_end
theorem loopM34_0 : LoopMeets Try.prog F (R L34_0.key) L34_0 lb34_0 := by
  refine loop_meets (pre := R) mixed (sgAt_all (P := Try.prog) (pre := R) (Φ := F) (l := sg34) ((fun _ h => nomatch h))) (loops_n 0 lk34_0 fun k hk => by omega) L34_0 (fun ρ => (((ρ.getD 7 default).lst.length : Int) - (ρ.getD 3 default).int).toNat) le34_0 fun ρ _ hq => ?_
  obtain ⟨v, w, a, p, q, r, E, s, f, j, rfl, hj, hm⟩ : prRt ρ := hq
  by_cases hlt : j < E.length
  · have hN : badE E a j = false → ∀ acc, acc = bkR f E a j ++ bk a (el E j) → RoundOk F (R L34_0.key) (fun ρ => (((ρ.getD 7 default).lst.length : Int) - (ρ.getD 3 default).int).toNat) L34_0 [v, w, .i a, .i (j : Int), p, q, r, .l E, s, .l (bkR f E a j)] [.i (-1), v, w, .i ((j : Int) + 1), .l acc] := fun hb acc e => by
      rw [← bk_next hlt] at e
      subst e
      refine round_next ⟨⟨v, w, a, p, q, r, E, s, f, j + 1, rfl, by omega, hm⟩, ?_, ?_⟩
      · show ((E.length : Int) - ((j + 1 : Nat) : Int)).toNat < ((E.length : Int) - (j : Int)).toNat
        omega
      · show lpRt [v, w, .i a, .i ((j + 1 : Nat) : Int), p, q, r, .l E, s, .l (f :: (E.take (j + 1)).flatMap (bk a))] = lpRt [v, w, .i a, .i (j : Int), p, q, r, .l E, s, .l (f :: (E.take j).flatMap (bk a))]
        simp only [lpRt, Int.toNat_natCast]
        exact scan_next hlt hb
    have hl : ∀ z : List D, decide (((bkR f E a j ++ [z]).length : Int) ≤ 879609302220) = true := fun z => decide_eq_true (by
      have := bkR_len f E a j
      simp
      omega)
    have hany := bk_any (f := f) (a := a) hj
    simp (disch := omega) only [rt34_0, VT.ok, Nd.holds, X.ds, X.d, Op1.ev, Op2.ev, List.getD_cons_zero, List.getD_cons_succ, D.int_i, D.bool_b, D.lst_l, ite_b, ite_or, Int.toNat_natCast, implies_true, true_and, ↓reduceIte, dle_t, dlt_t, w64', hl, hany]
    show if tch a (el E j) = true then _ else _
    cases hb : tch a (el E j) with
    | true =>
      simp only [if_true]
      exact hN (by rw [badE, hb]; rfl) _ (by rw [bk, if_pos hb]; rfl)
    | false =>
      simp only [Bool.false_eq_true, if_false]
      cases h2 : anyN (fun k => tch a (el E k)) j with
      | true =>
        simp only [if_true]
        refine round_exit (by omega) ?_
        show lpRt [v, w, .i a, .i (j : Int), p, q, r, .l E, s, .l (f :: (E.take j).flatMap (bk a))] = _
        simp only [lpRt, Int.toNat_natCast]
        exact scan_hit hlt (by rw [badE, hb, h2]; rfl)
      | false =>
        simp only [Bool.false_eq_true, if_false]
        exact hN (by rw [badE, hb, h2]; rfl) _ (by rw [bk, if_neg (by rw [hb]; decide), List.append_nil])
  · have hj' : j = E.length := by omega
    subst hj'
    simp (disch := omega) only [rt34_0, VT.ok, X.ds, X.d, Op1.ev, Op2.ev, List.getD_cons_zero, List.getD_cons_succ, D.int_i, D.bool_b, D.lst_l, Bool.false_eq_true, ↓reduceIte, dlt_f]
    refine round_exit (by omega) ?_
    show lpRt [v, w, .i a, .i (E.length : Int), p, q, r, .l E, s, .l (f :: (E.take E.length).flatMap (bk a))] = _
    simp only [lpRt, Int.toNat_natCast]
    exact scan_end
theorem m34 : Meets Try.prog 34 S34 (R 34) (F 34) := by
  refine meets_of_vt (pre := R) (Φ := F) mixed (sgAt_all (P := Try.prog) (pre := R) (Φ := F) (l := sg34) ((fun _ h => nomatch h))) Try.func34 b34 n34 (loops_n 1 k34 fun k hk => match k, hk with | 0, _ => loop_this lf34_0 loopM34_0) e34 fun ds hf hq => ?_
  obtain ⟨g, ds', rfl, h5, _, ⟨_, hN⟩, _⟩ := fitsG hf.flat
  have e0 := fits0 h5
  subst e0
  obtain ⟨h0, h1, h2⟩ : prRtF _ := hq
  have h0 : 0 < g.N.length := h0
  have h1 : g.N.length ≤ 1000000 := h1
  have h2 : g.E.length ≤ 1000000 := h2
  have hF : F 34 (.s g.nm :: .b g.dr :: .l g.N :: .l g.E :: .l g.C :: []) = if anyN (badE g.E ((g.N.length : Int) - 1)) g.E.length = true then [.l [], .b false] else [.l (bkR (edit (.i 1) (.i 0) (el g.N (g.N.length - 1)) zE) g.E ((g.N.length : Int) - 1) g.E.length), .b true] := rfl
  rw [hF]
  have hw : IntKind.i64.wrap ((g.N.length : Int) - 1) = (g.N.length : Int) - 1 := w64 (by omega)
  have hn : ((g.N.length : Int) - 1).toNat = g.N.length - 1 := by omega
  have c1 : decide ((0 : Int) ≤ (g.N.length : Int) - 1) = true := decide_eq_true (by omega)
  have c2 : decide ((g.N.length : Int) - 1 < (g.N.length : Int)) = true := decide_eq_true (by omega)
  have p0 : prRt [.l [], .b false, .i ((g.N.length : Int) - 1), .i 0, .s g.nm, .b g.dr, .l g.N, .l g.E, .l g.C, .l [edit (.i 1) (.i 0) (el g.N (g.N.length - 1)) zE]] := ⟨_, _, _, _, _, _, g.E, _, _, 0, rfl, by omega, h2⟩
  simp only [vt34, VT.ok, Nd.holds, X.outs, X.ds, X.d, Op1.ev, Op2.ev, List.cons_append, List.nil_append, List.getD_cons_zero, List.getD_cons_succ, D.int_i, D.bool_b, D.lst_l, implies_true, true_and, F13400, R13400, hw, hn, c1, c2]
  refine ⟨fun _ => p0, ?_⟩
  simp only [lpRt, Int.toNat_zero, Nat.sub_zero]
  rcases scan_two (p := badE g.E ((g.N.length : Int) - 1)) g.E.length with ⟨h3, j, _, _, _, h⟩ | ⟨h3, h⟩
  · simp only [h, h3, takeD_zero, takeD_cons, List.getD_cons_zero, List.getD_cons_succ, D.int_i, if_true, beq_self_eq_true]
  · simp only [h, h3, takeD_zero, takeD_cons, List.getD_cons_zero, List.getD_cons_succ, D.int_i, Bool.false_eq_true, if_false]
    exact rfl


theorem edit_of (k a : D) (n e : List D) : edit k a n e = [k, a, gc n 0, gc n 1, gc n 2, gc n 3, gc n 4, gc n 5, gc e 0, gc e 1, gc e 2, gc e 3, gc e 4, gc e 5, gc e 6] := rfl
theorem inv_err {g : Gd} {x : List D} (h : (applyG g x).2 ≠ 0) : invG g x = ([], (applyG g x).2) := by unfold invG; rw [if_neg h]
theorem applyL (g : Gd) (x : List D) : applyD (.s g.nm :: .b g.dr :: .l g.N :: .l g.E :: .l g.C :: x) = [.s (applyG g x).1.nm, .b (applyG g x).1.dr, .l (applyG g x).1.N, .l (applyG g x).1.E, .l (applyG g x).1.C, .i (applyG g x).2] := rfl
theorem m13 : Meets Try.prog 13 S13 (R 13) (F 13) := by
  refine meets_of_vt (pre := R) (Φ := F) mixed (sgAt_all (P := Try.prog) (pre := R) (Φ := F) (l := sg13) (List.forall_mem_cons.2 ⟨Meets.at (pre := R) (Φ := F) m10, List.forall_mem_cons.2 ⟨Meets.at (pre := R) (Φ := F) m24, List.forall_mem_cons.2 ⟨Meets.at (pre := R) (Φ := F) m33, (fun _ h => nomatch h)⟩⟩⟩)) Try.func13 b13 n13 (loops_n 1 k13 fun k hk => match k, hk with | 0, _ => loop_this lf13_0 loopM13_0) e13 fun ds hf hq => ?_
  obtain ⟨g, ds', rfl, h5, _, ⟨_, hN⟩, _⟩ := fitsG hf.flat
  obtain ⟨Y, ds'', rfl, hY, hat, h6⟩ := fitsX h5
  have e0 := fits0 h6
  subst e0
  rw [List.append_nil] at *
  have hF : F 13 (.s g.nm :: .b g.dr :: .l g.N :: .l g.E :: .l g.C :: Y) = [.l (invG g Y).1, .i (invG g Y).2] := rfl
  rw [hF]
  have hA := applyL g Y
  have hpA : prApply (.s g.nm :: .b g.dr :: .l g.N :: .l g.E :: .l g.C :: Y) := hq
  by_cases hz : (applyG g Y).2 = 0
  · obtain ⟨hv, hfit, hin, _, _⟩ := apply_ok hz
    obtain ⟨⟨hn1, hn2, hn3⟩, _⟩ := valid_parts hv
    have hcp := clone_pre hv
    have hkk := fits_kind hfit
    generalize hr : invG g Y = rr
    unfold invG at hr
    rw [if_pos hz] at hr
    rw [hz] at hA
    obtain ⟨k, a, s, t, w, h, c, ps, p, q, r, u, lb, wt, ln, hx⟩ := hY
    have hk : cI Y 0 = k := by rw [hx]; rfl
    have ha : cI Y 1 = a := by rw [hx]; rfl
    have ha2 : gc Y 1 = .i a := by rw [hx]; rfl
    rw [hk, ha, ha2] at hr
    rw [hk] at hkk
    rw [ha] at hat
    have hins : insB g Y = if (k == 1) = true then true else if (k == 3) = true then true else if (k == 4) = true then decide (0 ≤ a) && decide (a < (g.E.length : Int)) else decide (0 ≤ a) && decide (a < (g.N.length : Int)) := by unfold insB; rw [hk, ha]
    rw [hins] at hin
    have hw1 : IntKind.i64.wrap ((g.E.length : Int) - 1) = (g.E.length : Int) - 1 := w64 (by omega)
    have hw2 : IntKind.i64.wrap ((g.N.length : Int) - 1) = (g.N.length : Int) - 1 := w64 (by omega)
    rw [hx] at hA hpA ⊢
    have x10 : (1 : Int) = 1 := rfl
    rcases hkk with rfl | rfl | rfl | rfl | rfl | rfl
    · simp only [beq_self_eq_true, if_true] at hr
      subst hr
      simp only [vt13, VT.ok, Nd.holds, X.outs, X.ds, X.d, Op1.ev, Op2.ev, takeD_zero, takeD_cons, List.cons_append, List.nil_append, List.getD_cons_zero, List.getD_cons_succ, D.int_i, D.bool_b, D.lst_l, if_true, Bool.false_eq_true, if_false, F24, R24, F10, R10, F11300, R11300, hA, beq_self_eq_true, Bool.not_true]
      exact ⟨fun _ => hpA, rfl⟩
    · -- a node comes back
      simp only [show ((2 : Int) == 1) = false from rfl, show ((2 : Int) == 3) = false from rfl, show ((2 : Int) == 4) = false from rfl, show ((2 : Int) == 5) = false from rfl, show ((2 : Int) == 6) = false from rfl, Bool.false_eq_true, if_false, Bool.and_eq_true, decide_eq_true_eq] at hr hin
      obtain ⟨n, rfl⟩ := Int.eq_ofNat_of_zero_le hin.1
      have hlt : n < g.N.length := by omega
      have hrow := fits_node (hN _ (el_mem hlt))
      have hps : (cL (el g.N n) 5).length ≤ 1000000 := by
        obtain ⟨g', he, _, _, _, h4⟩ := hcp
        have : g' = g := by
          cases g; cases g'
          simp only [Gd.ds, List.cons.injEq, D.s.injEq, D.b.injEq, D.l.injEq] at he
          simp [he]
        subst this
        exact h4 _ (el_mem hlt)
      have hpc : prCopy (el g.N n) := by
        obtain ⟨s, t, x, y, z, ps, he⟩ := hrow
        rw [he] at hps
        exact ⟨_, _, _, _, _, ps, he, hps⟩
      have c1 : decide ((0 : Int) ≤ (n : Int)) = true := decide_eq_true (by omega)
      have c2 : decide ((n : Int) < (g.N.length : Int)) = true := decide_eq_true (by omega)
      by_cases hl : (n : Int) = (g.N.length : Int) - 1
      · have c3 : ((n : Int) == (g.N.length : Int) - 1) = true := by simpa using hl
        obtain ⟨t0, t1, t2, t3, t4, t5, hrow2⟩ : ∃ t0 t1 t2 t3 t4 t5, el g.N n = [t0, t1, t2, t3, t4, t5] := by
          obtain ⟨s, t, x, y, z, ps, he⟩ := hrow
          exact ⟨_, _, _, _, _, _, he⟩
        have hcop : cloneD [gc (el g.N n) 0, gc (el g.N n) 1, gc (el g.N n) 2, gc (el g.N n) 3, gc (el g.N n) 4, gc (el g.N n) 5] = [t0, t1, t2, t3, t4, t5] := by
          show [gc (el g.N n) 0, gc (el g.N n) 1, gc (el g.N n) 2, gc (el g.N n) 3, gc (el g.N n) 4, gc (el g.N n) 5] = _
          rw [row6 hrow, hrow2]
        have hpc2 : prCopy [gc (el g.N n) 0, gc (el g.N n) 1, gc (el g.N n) 2, gc (el g.N n) 3, gc (el g.N n) 4, gc (el g.N n) 5] := by rw [row6 hrow]; exact hpc
        have p0 : prIv [.l [], .i 0, .l g.E, .i (g.E.length : Int), .i 0, .i 2, .i (n : Int), .s s, .s t, .i w, .i h, .i c, .l ps, .i p, .i q, .i r, .i u, .s lb, .i wt, .i ln, .l [[.i 1, .i 0, t0, t1, t2, t3, t4, t5, .i 0, .i 0, .i 0, .i 0, .s ⟨#[]⟩, .i 0, .i 0]]] := ⟨_, _, g.E, _, n, _, _, _, _, _, _, _, _, _, _, _, _, _, _, 0, rfl, by omega, by omega⟩
        simp only [vt13, VT.ok, Nd.holds, X.outs, X.ds, X.d, Op1.ev, Op2.ev, takeD_zero, takeD_cons, List.cons_append, List.nil_append, List.getD_cons_zero, List.getD_cons_succ, D.int_i, D.bool_b, D.lst_l, Int.toNat_natCast, Bool.false_eq_true, if_false, implies_true, true_and, F24, R24, F10, R10, F11300, R11300, hA, beq_self_eq_true, Bool.not_true, hw2, c1, c2, c3, hcop]
        refine ⟨fun _ => hpA, fun _ => hpc2, fun _ => p0, ?_⟩
        simp only [lpIv, Int.toNat_zero, Nat.sub_zero]
        rw [Int.toNat_natCast] at hr
        rcases scan_two (p := badE g.E (n : Int)) g.E.length with ⟨h3, j, _, _, _, h⟩ | ⟨h3, h⟩
        · rw [if_neg (by rw [h3]; simp)] at hr
          subst hr
          simp only [h, takeD_zero, takeD_cons, List.getD_cons_zero, List.getD_cons_succ, D.int_i, if_true, beq_self_eq_true]
        · rw [if_pos ⟨hl, h3⟩] at hr
          subst hr
          simp only [h, takeD_zero, takeD_cons, List.getD_cons_zero, List.getD_cons_succ, D.int_i]
          have he : edit (.i 1) (.i 0) (el g.N n) zE = [.i 1, .i 0, t0, t1, t2, t3, t4, t5, .i 0, .i 0, .i 0, .i 0, .s ⟨#[]⟩, .i 0, .i 0] := by rw [hrow2]; rfl
          rw [he]
          show [D.l (bkR _ g.E (n : Int) g.E.length), D.i 0] = _
          rw [bkR, List.take_length]
      · have c3 : ((n : Int) == (g.N.length : Int) - 1) = false := by simpa using hl
        rw [if_neg (fun h => hl h.1)] at hr
        subst hr
        simp only [vt13, VT.ok, Nd.holds, X.outs, X.ds, X.d, Op1.ev, Op2.ev, takeD_zero, takeD_cons, List.cons_append, List.nil_append, List.getD_cons_zero, List.getD_cons_succ, D.int_i, D.bool_b, D.lst_l, Int.toNat_natCast, if_true, Bool.false_eq_true, if_false, implies_true, true_and, F24, R24, F10, R10, F11300, R11300, hA, beq_self_eq_true, Bool.not_true, Bool.not_false, hw2, c1, c2, c3]
        exact ⟨fun _ => hpA, trivial⟩
    · simp only [show ((3 : Int) == 1) = false from rfl, beq_self_eq_true, if_true, Bool.false_eq_true, if_false] at hr
      subst hr
      simp only [vt13, VT.ok, Nd.holds, X.outs, X.ds, X.d, Op1.ev, Op2.ev, takeD_zero, takeD_cons, List.cons_append, List.nil_append, List.getD_cons_zero, List.getD_cons_succ, D.int_i, D.bool_b, D.lst_l, if_true, Bool.false_eq_true, if_false, F24, R24, F10, R10, F11300, R11300, hA, beq_self_eq_true, Bool.not_true, show ((3 : Int) == 1) = false from rfl]
      exact ⟨fun _ => hpA, rfl⟩
    · -- an edge comes back
      simp only [show ((4 : Int) == 1) = false from rfl, show ((4 : Int) == 3) = false from rfl, show ((4 : Int) == 5) = false from rfl, show ((4 : Int) == 6) = false from rfl, beq_self_eq_true, if_true, Bool.false_eq_true, if_false, Bool.and_eq_true, decide_eq_true_eq] at hr hin
      obtain ⟨n, rfl⟩ := Int.eq_ofNat_of_zero_le hin.1
      have c1 : decide ((0 : Int) ≤ (n : Int)) = true := decide_eq_true (by omega)
      have c2 : decide ((n : Int) < (g.E.length : Int)) = true := decide_eq_true (by omega)
      by_cases hl : (n : Int) = (g.E.length : Int) - 1
      · have c3 : ((n : Int) == (g.E.length : Int) - 1) = true := by simpa using hl
        rw [if_pos hl, Int.toNat_natCast] at hr
        subst hr
        simp only [vt13, VT.ok, Nd.holds, X.outs, X.ds, X.d, Op1.ev, Op2.ev, takeD_zero, takeD_cons, List.cons_append, List.nil_append, List.getD_cons_zero, List.getD_cons_succ, D.int_i, D.bool_b, D.lst_l, Int.toNat_natCast, if_true, Bool.false_eq_true, if_false, implies_true, true_and, F24, R24, F10, R10, F11300, R11300, hA, beq_self_eq_true, Bool.not_true, hw1, c1, c2, c3]
        exact ⟨fun _ => hpA, rfl⟩
      · have c3 : ((n : Int) == (g.E.length : Int) - 1) = false := by simpa using hl
        rw [if_neg hl] at hr
        subst hr
        simp only [vt13, VT.ok, Nd.holds, X.outs, X.ds, X.d, Op1.ev, Op2.ev, takeD_zero, takeD_cons, List.cons_append, List.nil_append, List.getD_cons_zero, List.getD_cons_succ, D.int_i, D.bool_b, D.lst_l, Int.toNat_natCast, if_true, Bool.false_eq_true, if_false, implies_true, true_and, F24, R24, F10, R10, F11300, R11300, hA, beq_self_eq_true, Bool.not_true, Bool.not_false, hw1, c1, c2, c3]
        exact ⟨fun _ => hpA, trivial⟩
    · simp only [show ((5 : Int) == 1) = false from rfl, show ((5 : Int) == 3) = false from rfl, show ((5 : Int) == 4) = false from rfl, beq_self_eq_true, if_true, Bool.false_eq_true, if_false, Bool.and_eq_true, decide_eq_true_eq] at hr hin
      obtain ⟨n, rfl⟩ := Int.eq_ofNat_of_zero_le hin.1
      have c1 : decide ((0 : Int) ≤ (n : Int)) = true := decide_eq_true (by omega)
      have c2 : decide ((n : Int) < (g.N.length : Int)) = true := decide_eq_true (by omega)
      subst hr
      simp only [vt13, VT.ok, Nd.holds, X.outs, X.ds, X.d, Op1.ev, Op2.ev, takeD_zero, takeD_cons, List.cons_append, List.nil_append, List.getD_cons_zero, List.getD_cons_succ, D.int_i, D.bool_b, D.lst_l, Int.toNat_natCast, if_true, Bool.false_eq_true, if_false, implies_true, true_and, F24, R24, F10, R10, F11300, R11300, hA, beq_self_eq_true, Bool.not_true, c1, c2]
      exact ⟨fun _ => hpA, rfl⟩
    · simp only [show ((6 : Int) == 1) = false from rfl, show ((6 : Int) == 3) = false from rfl, show ((6 : Int) == 4) = false from rfl, show ((6 : Int) == 5) = false from rfl, beq_self_eq_true, if_true, Bool.false_eq_true, if_false, Bool.and_eq_true, decide_eq_true_eq] at hr hin
      obtain ⟨n, rfl⟩ := Int.eq_ofNat_of_zero_le hin.1
      have c1 : decide ((0 : Int) ≤ (n : Int)) = true := decide_eq_true (by omega)
      have c2 : decide ((n : Int) < (g.N.length : Int)) = true := decide_eq_true (by omega)
      subst hr
      simp only [vt13, VT.ok, Nd.holds, X.outs, X.ds, X.d, Op1.ev, Op2.ev, takeD_zero, takeD_cons, List.cons_append, List.nil_append, List.getD_cons_zero, List.getD_cons_succ, D.int_i, D.bool_b, D.lst_l, Int.toNat_natCast, if_true, Bool.false_eq_true, if_false, implies_true, true_and, F24, R24, F10, R10, F11300, R11300, hA, beq_self_eq_true, Bool.not_true, c1, c2]
      exact ⟨fun _ => hpA, rfl⟩
  · rw [inv_err hz]
    generalize applyG g Y = rr at hA hz
    obtain ⟨k, a, s, t, w, h, c, ps, p, q, r, u, lb, wt, ln, hx⟩ := hY
    rw [hx] at hA hpA ⊢
    simp only [vt13, VT.ok, Nd.holds, X.outs, X.ds, X.d, Op1.ev, Op2.ev, takeD_zero, takeD_cons, List.cons_append, List.nil_append, List.getD_cons_zero, List.getD_cons_succ, D.int_i, D.bool_b, D.lst_l, if_true, and_true, F24, R24, F10, R10, F11300, R11300, hA, beq_f hz, Bool.not_false]
    exact fun _ => hpA
end Go.Proofs.Ythnilbkkihmpoaa.rv
