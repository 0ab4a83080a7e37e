/-
  Changes of graphs: copies of graphs; edges without a node.
-/
import Derived.Test.YthnilbkkihmpoaaRvCh2
namespace Go.Proofs.Ythnilbkkihmpoaa.rv
open Go.RV

theorem m24 : Meets Try.prog 24 S24 (R 24) (F 24) := by
  refine meets_of_vt (pre := R) (Φ := F) mixed (sgAt_all (P := Try.prog) (pre := R) (Φ := F) (l := sg24) (List.forall_mem_cons.2 ⟨Meets.at (pre := R) (Φ := F) m44, (fun _ h => nomatch h)⟩)) Try.func24 b24 n24 (loops_n 0 k24 fun k hk => by omega) e24 fun ds hf hq => ?_
  obtain ⟨a, b, c, d, e, ps, rfl, hps⟩ : prCopy ds := hq
  simp only [vt24, VT.ok, Nd.holds, X.outs, X.ds, X.d, takeD_zero, takeD_cons, List.cons_append, List.nil_append, List.getD_cons_zero, List.getD_cons_succ, D.bool_b, and_true, F44, R44, F24, cloneD]
  exact fun _ => ⟨ps, rfl, hps⟩
theorem td6 {x : List D} (h : nodeRow x) : [(takeD 6 x).getD 0 default, (takeD 6 x).getD 1 default, (takeD 6 x).getD 2 default, (takeD 6 x).getD 3 default, (takeD 6 x).getD 4 default, (takeD 6 x).getD 5 default] = x := by
  obtain ⟨s, t, a, b, c, ps, rfl⟩ := h
  rfl
theorem loopM23_0 : LoopMeets Try.prog F (R L23_0.key) L23_0 lb23_0 := by
  refine loop_meets (pre := R) mixed (sgAt_all (P := Try.prog) (pre := R) (Φ := F) (l := sg23) (List.forall_mem_cons.2 ⟨Meets.at (pre := R) (Φ := F) m24, List.forall_mem_cons.2 ⟨Meets.at (pre := R) (Φ := F) m42, List.forall_mem_cons.2 ⟨Meets.at (pre := R) (Φ := F) m43, (fun _ h => nomatch h)⟩⟩⟩)) (loops_n 0 lk23_0 fun k hk => by omega) L23_0 (fun ρ => ((ρ.getD 1 default).int - (ρ.getD 2 default).int).toNat) le23_0 fun ρ _ hq => ?_
  obtain ⟨N, a, b, c, d, j, rfl, hj, hm, hN⟩ : prCl ρ := hq
  by_cases hlt : j < N.length
  · obtain ⟨hrow, hps⟩ := hN _ (el_mem hlt)
    have hl : decide ((((N.take j).length + 1 : Nat) : Int) ≤ 1759218604441) = true := decide_eq_true (by simp; omega)
    have hpc : prCopy (el N j) := by
      obtain ⟨s, t, x, y, z, ps, he⟩ := hrow
      rw [he] at hps
      exact ⟨_, _, _, _, _, ps, he, hps⟩
    simp (disch := omega) only [rt23_0, VT.ok, Nd.holds, X.outs, X.ds, X.d, Op1.ev, Op2.ev, List.cons_append, List.nil_append, List.getD_cons_zero, List.getD_cons_succ, D.int_i, D.bool_b, D.lst_l, Int.toNat_natCast, implies_true, true_and, F24, R24, ↓reduceIte, dle_t, dlt_t, w64', cloneD, List.length_append, List.length_cons, List.length_nil, Nat.zero_add, row6 hrow, hl]
    refine ⟨fun _ => hpc, ?_⟩
    rw [td6 hrow, ← take_succ' hlt]
    refine round_next ⟨⟨N, a, b, c, d, j + 1, rfl, by omega, hm, hN⟩, ?_, rfl⟩
    show ((N.length : Int) - ((j + 1 : Nat) : Int)).toNat < ((N.length : Int) - (j : Int)).toNat
    omega
  · have hj' : j = N.length := by omega
    subst hj'
    simp (disch := omega) only [rt23_0, VT.ok, X.ds, X.d, Op2.ev, List.getD_cons_zero, List.getD_cons_succ, D.int_i, D.bool_b, Bool.false_eq_true, ↓reduceIte, dlt_f]
    refine round_exit (by omega) ?_
    show lpCl [.l N, .i (N.length : Int), .i (N.length : Int), a, b, c, d, .l (N.take N.length)] = _
    simp only [lpCl, List.take_length]
theorem m23 : Meets Try.prog 23 S23 (R 23) (F 23) := by
  refine meets_of_vt (pre := R) (Φ := F) mixed (sgAt_all (P := Try.prog) (pre := R) (Φ := F) (l := sg23) (List.forall_mem_cons.2 ⟨Meets.at (pre := R) (Φ := F) m24, List.forall_mem_cons.2 ⟨Meets.at (pre := R) (Φ := F) m42, List.forall_mem_cons.2 ⟨Meets.at (pre := R) (Φ := F) m43, (fun _ h => nomatch h)⟩⟩⟩)) Try.func23 b23 n23 (loops_n 1 k23 fun k hk => match k, hk with | 0, _ => loop_this lf23_0 loopM23_0) e23 fun ds hf hq => ?_
  obtain ⟨g, rfl, h1, h2, h3, h4⟩ : prCloneG ds := hq
  obtain ⟨g', ds', he, h5, _, ⟨_, hN⟩, _⟩ := fitsG hf.flat
  have e0 := fits0 h5
  subst e0
  simp only [Gd.ds, List.cons.injEq, D.l.injEq] at he
  obtain ⟨_, _, e3, _⟩ := he
  rw [← e3] at hN
  have hpre : prCl [.l g.N, .i (g.N.length : Int), .i 0, .s g.nm, .b g.dr, .l g.E, .l g.C, .l []] := ⟨g.N, _, _, _, _, 0, rfl, by omega, h1, fun x hx => ⟨fits_node (hN x hx), h4 x hx⟩⟩
  have hF : F 23 g.ds = g.ds := rfl
  rw [hF]
  simp only [vt23, Gd.ds, VT.ok, Nd.holds, X.outs, X.ds, X.d, Op1.ev, takeD_zero, takeD_cons, List.cons_append, List.nil_append, List.getD_cons_zero, List.getD_cons_succ, D.bool_b, D.lst_l, and_true, F42, R42, F43, R43, F12300, R12300, cloneD, lpCl]
  exact ⟨fun _ => hpre, fun _ => ⟨_, rfl, h2⟩, fun _ => ⟨_, rfl, h3⟩⟩
theorem m23q : Meets Try.prog 23 S23q (R 23) (F 23) := m23.plain
theorem take_flat {f : List D → List (List D)} {E : List (List D)} {j : Nat} (h : j < E.length) : (E.take (j + 1)).flatMap f = (E.take j).flatMap f ++ f (el E j) := by
  rw [take_succ' h, List.flatMap_append]
  simp
theorem wi_take {E : List (List D)} {a : Int} {j : Nat} (h : j < E.length) : wiE (E.take (j + 1)) a = wiE (E.take j) a ++ edgeW a (el E j) := take_flat h
theorem edgeW_len (a : Int) (x : List D) : (edgeW a x).length ≤ 1 := by unfold edgeW; split <;> simp
theorem wi_len (E : List (List D)) (a : Int) : (wiE E a).length ≤ E.length := by
  unfold wiE
  induction E with
  | nil => simp
  | cons x xs ih =>
    have := edgeW_len a x
    rw [List.flatMap_cons, List.length_append, List.length_cons]
    omega
theorem loopM26_0 : LoopMeets Try.prog F (R L26_0.key) L26_0 lb26_0 := by
  refine loop_meets (pre := R) mixed (sgAt_all (P := Try.prog) (pre := R) (Φ := F) (l := sg26) (List.forall_mem_cons.2 ⟨Meets.at (pre := R) (Φ := F) m33, (fun _ h => nomatch h)⟩)) (loops_n 0 lk26_0 fun k hk => by omega) L26_0 (fun ρ => ((ρ.getD 2 default).int - (ρ.getD 3 default).int).toNat) le26_0 fun ρ _ hq => ?_
  obtain ⟨a, E, j, rfl, hj, hm⟩ : prWiL ρ := hq
  by_cases hlt : j < E.length
  · have hN : ∀ acc, acc = wiE (E.take j) a ++ edgeW a (el E j) → RoundOk F (R L26_0.key) (fun ρ => ((ρ.getD 2 default).int - (ρ.getD 3 default).int).toNat) L26_0 [.i a, .l E, .i (E.length : Int), .i (j : Int), .l (wiE (E.take j) a)] [.i (-1), .i ((j : Int) + 1), .l acc] := fun acc e => by
      rw [← wi_take hlt] at e
      subst e
      refine round_next ⟨⟨a, E, j + 1, rfl, by omega, hm⟩, ?_, rfl⟩
      show ((E.length : Int) - ((j + 1 : Nat) : Int)).toNat < ((E.length : Int) - (j : Int)).toNat
      omega
    have hl : decide ((((wiE (E.take j) a).length + 1 : Nat) : Int) ≤ 2199023255552) = true := decide_eq_true (by
      have := wi_len (E.take j) a
      simp at this
      omega)
    have ht : tch a [gc (el E j) 0, gc (el E j) 1] = tch a (el E j) := rfl
    simp (disch := omega) only [rt26_0, VT.ok, Nd.holds, X.outs, X.ds, X.d, Op1.ev, Op2.ev, takeD_zero, takeD_cons, List.cons_append, List.nil_append, List.getD_cons_zero, List.getD_cons_succ, D.int_i, D.bool_b, D.lst_l, Int.toNat_natCast, implies_true, true_and, F33, R33, ↓reduceIte, dle_t, dlt_t, w64', touch_eq, ht, List.length_append, List.length_cons, List.length_nil, Nat.zero_add, hl]
    cases hb : tch a (el E j) with
    | true =>
      simp only [if_true]
      exact hN _ (by rw [edgeW, if_pos hb, List.append_nil])
    | false =>
      simp only [Bool.false_eq_true, if_false]
      have he : edgeW a (el E j) = [[decD a (gc (el E j) 0), decD a (gc (el E j) 1), gc (el E j) 2, gc (el E j) 3, gc (el E j) 4, gc (el E j) 5, gc (el E j) 6]] := by rw [edgeW, if_neg (by rw [hb]; decide)]
      by_cases h0 : a < (gc (el E j) 0).int
      · by_cases h1 : a < (gc (el E j) 1).int
        · simp only [decide_eq_true h0, decide_eq_true h1, if_true]
          exact hN _ (by rw [he, decD, if_pos h0, decD, if_pos h1])
        · simp only [decide_eq_true h0, decide_eq_false h1, if_true, Bool.false_eq_true, if_false]
          exact hN _ (by rw [he, decD, if_pos h0, decD, if_neg h1])
      · by_cases h1 : a < (gc (el E j) 1).int
        · simp only [decide_eq_false h0, decide_eq_true h1, if_true, Bool.false_eq_true, if_false]
          exact hN _ (by rw [he, decD, if_neg h0, decD, if_pos h1])
        · simp only [decide_eq_false h0, decide_eq_false h1, Bool.false_eq_true, if_false]
          exact hN _ (by rw [he, decD, if_neg h0, decD, if_neg h1])
  · have hj' : j = E.length := by omega
    subst hj'
    simp (disch := omega) only [rt26_0, VT.ok, X.ds, X.d, Op2.ev, List.getD_cons_zero, List.getD_cons_succ, D.int_i, D.bool_b, Bool.false_eq_true, ↓reduceIte, dlt_f]
    refine round_exit (by omega) ?_
    show lpWi [.i a, .l E, .i (E.length : Int), .i (E.length : Int), .l (wiE (E.take E.length) a)] = _
    simp only [lpWi, List.take_length]
theorem m26 : Meets Try.prog 26 S26 (R 26) (F 26) := by
  refine meets_of_vt (pre := R) (Φ := F) mixed (sgAt_all (P := Try.prog) (pre := R) (Φ := F) (l := sg26) (List.forall_mem_cons.2 ⟨Meets.at (pre := R) (Φ := F) m33, (fun _ h => nomatch h)⟩)) Try.func26 b26 n26 (loops_n 1 k26 fun k hk => match k, hk with | 0, _ => loop_this lf26_0 loopM26_0) e26 fun ds hf hq => ?_
  obtain ⟨x, y, rfl, hx, hy⟩ := fits2 hf.flat
  obtain ⟨E, rfl, hm, _⟩ := wf_sl hx
  obtain ⟨a, rfl, _⟩ := wf_i64 hy
  have hq : E.length ≤ 1000000 := hq
  have hpre : prWiL [.i a, .l E, .i (E.length : Int), .i 0, .l []] := ⟨a, E, 0, rfl, by omega, hq⟩
  simp only [vt26, VT.ok, Nd.holds, X.outs, X.ds, X.d, Op1.ev, takeD_zero, takeD_cons, List.cons_append, List.nil_append, List.getD_cons_zero, List.getD_cons_succ, D.bool_b, D.lst_l, F12600, R12600, F26, lpWi]
  exact ⟨fun _ => hpre, rfl⟩
end Go.Proofs.Ythnilbkkihmpoaa.rv
