/-
  Changes of graphs: one edit, as the reference does it.
-/
import Derived.Test.YthnilbkkihmpoaaRvCh4
namespace Go.Proofs.Ythnilbkkihmpoaa.rv
open Go.RV

theorem rmI_next {N : List (List D)} {a j : Nat} (h : j < N.length) (hne : j ≠ a) : rmI (N.take (j + 1)) a = rmI (N.take j) a ++ [el N j] := by
  unfold rmI
  rw [take_succ' h]
  by_cases hj : j < a
  · have e1 : (N.take j).take a = N.take j := List.take_of_length_le (by simp; omega)
    have e2 : (N.take j ++ [el N j]).take a = N.take j ++ [el N j] := List.take_of_length_le (by simp; omega)
    have e3 : (N.take j).drop (a + 1) = [] := List.drop_of_length_le (by simp; omega)
    have e4 : (N.take j ++ [el N j]).drop (a + 1) = [] := List.drop_of_length_le (by simp; omega)
    rw [e1, e2, e3, e4]; simp
  · have hlen : (N.take j).length = j := by simp; omega
    rw [List.take_append_of_le_length (by omega), List.drop_append_of_le_length (by omega), List.append_assoc]
theorem rmI_skip {N : List (List D)} {a : Nat} (h : a < N.length) : rmI (N.take (a + 1)) a = rmI (N.take a) a := by
  unfold rmI
  have e3 : (N.take a).drop (a + 1) = [] := List.drop_of_length_le (by simp; omega)
  have e4 : (N.take (a + 1)).drop (a + 1) = [] := List.drop_of_length_le (by simp; omega)
  rw [e3, e4, List.take_take, List.take_take]
  simp
theorem rmI_len (N : List (List D)) (a : Nat) : (rmI N a).length ≤ N.length := by unfold rmI; simp; omega
theorem loopM51_0 : LoopMeets Try.prog F (R L51_0.key) L51_0 lb51_0 := by
  refine loop_meets (pre := R) mixed (sgAt_all (P := Try.prog) (pre := R) (Φ := F) (l := sg51) (List.forall_mem_cons.2 ⟨Meets.at (pre := R) (Φ := F) m68, (fun _ h => nomatch h)⟩)) (loops_n 0 lk51_0 fun k hk => by omega) L51_0 (fun ρ => (((ρ.getD 4 default).lst.length : Int) - (ρ.getD 1 default).int).toNat) le51_0 fun ρ _ hq => ?_
  obtain ⟨a, p, q, N, r, s, t, u, v, w, j, rfl, hj, hm, hN⟩ : prRm0 ρ := hq
  by_cases hlt : j < N.length
  · have hX : ∀ acc, acc = rmI (N.take (j + 1)) a → RoundOk F (R L51_0.key) (fun ρ => (((ρ.getD 4 default).lst.length : Int) - (ρ.getD 1 default).int).toNat) L51_0 [.i (a : Int), .i (j : Int), p, q, .l N, r, s, t, u, v, .l (rmI (N.take j) a), w] [.i (-1), .i ((j : Int) + 1), .l acc] := fun acc e => by
      subst e
      refine round_next ⟨⟨a, p, q, N, r, s, t, u, v, w, j + 1, rfl, by omega, hm, hN⟩, ?_, rfl⟩
      show ((N.length : Int) - ((j + 1 : Nat) : Int)).toNat < ((N.length : Int) - (j : Int)).toNat
      omega
    have hrow := hN _ (el_mem hlt)
    have hl : ∀ z : List D, decide (((rmI (N.take j) a ++ [z]).length : Int) ≤ 1759218604441) = true := fun z => decide_eq_true (by
      have := rmI_len (N.take j) a
      simp at this ⊢
      omega)
    simp (disch := omega) only [rt51_0, VT.ok, Nd.holds, X.ds, X.d, Op1.ev, Op2.ev, List.getD_cons_zero, List.getD_cons_succ, D.int_i, D.bool_b, D.lst_l, Int.toNat_natCast, implies_true, true_and, ↓reduceIte, dle_t, dlt_t, w64', row6 hrow, hl]
    by_cases hja : j = a
    · subst hja
      simp only [beq_self_eq_true, Bool.not_true, Bool.false_eq_true, if_false]
      exact hX _ (rmI_skip hlt).symm
    · have e : ((j : Int) == (a : Int)) = false := beq_f (by omega)
      simp only [e, Bool.not_false, if_true]
      exact hX _ (rmI_next hlt hja).symm
  · have hj' : j = N.length := by omega
    subst hj'
    simp (disch := omega) only [rt51_0, VT.ok, X.ds, X.d, Op1.ev, Op2.ev, List.getD_cons_zero, List.getD_cons_succ, D.int_i, D.bool_b, D.lst_l, Bool.false_eq_true, ↓reduceIte, dlt_f]
    refine round_exit (by omega) ?_
    show lpRm0 [.i (a : Int), .i (N.length : Int), p, q, .l N, r, s, t, u, v, .l (rmI (N.take N.length) a), w] = _
    simp only [lpRm0, List.take_length, Int.toNat_natCast]
theorem loopM51_1 : LoopMeets Try.prog F (R L51_1.key) L51_1 lb51_1 := by
  refine loop_meets (pre := R) mixed (sgAt_all (P := Try.prog) (pre := R) (Φ := F) (l := sg51) (List.forall_mem_cons.2 ⟨Meets.at (pre := R) (Φ := F) m68, (fun _ h => nomatch h)⟩)) (loops_n 0 lk51_1 fun k hk => by omega) L51_1 (fun ρ => (((ρ.getD 5 default).lst.length : Int) - (ρ.getD 1 default).int).toNat) le51_1 fun ρ _ hq => ?_
  obtain ⟨a, p, q, r, E, s, t, u, v, w, j, rfl, hj, hm⟩ : prRm1 ρ := hq
  by_cases hlt : j < E.length
  · have hX : ∀ acc, acc = wiE (E.take j) a ++ edgeW a (el E j) → RoundOk F (R L51_1.key) (fun ρ => (((ρ.getD 5 default).lst.length : Int) - (ρ.getD 1 default).int).toNat) L51_1 [.i a, .i (j : Int), p, q, r, .l E, s, t, u, v, w, .l (wiE (E.take j) a)] [.i (-1), .i ((j : Int) + 1), .l acc] := fun acc e => by
      rw [← wi_take hlt] at e
      subst e
      refine round_next ⟨⟨a, p, q, r, E, s, t, u, v, w, j + 1, rfl, by omega, hm⟩, ?_, rfl⟩
      show ((E.length : Int) - ((j + 1 : Nat) : Int)).toNat < ((E.length : Int) - (j : Int)).toNat
      omega
    have hl : ∀ z : List D, decide (((wiE (E.take j) a ++ [z]).length : Int) ≤ 2199023255552) = true := fun z => decide_eq_true (by
      have := wi_len (E.take j) a
      simp at this ⊢
      omega)
    simp (disch := omega) only [rt51_1, VT.ok, Nd.holds, X.outs, X.ds, X.d, Op1.ev, Op2.ev, takeD_zero, takeD_cons, List.cons_append, List.nil_append, List.getD_cons_zero, List.getD_cons_succ, D.int_i, D.bool_b, D.lst_l, ite_b, ite_or, Int.toNat_natCast, implies_true, true_and, F68, R68, ↓reduceIte, dle_t, dlt_t, w64', dec_eq, hl]
    show if tch a (el E j) = true then _ else _
    cases hb : tch a (el E j) with
    | true =>
      simp only [if_true]
      exact hX _ (by rw [edgeW, if_pos hb, List.append_nil])
    | false =>
      simp only [Bool.false_eq_true, if_false]
      exact hX _ (by rw [edgeW, if_neg (by rw [hb]; decide)])
  · have hj' : j = E.length := by omega
    subst hj'
    simp (disch := omega) only [rt51_1, VT.ok, X.ds, X.d, Op1.ev, Op2.ev, List.getD_cons_zero, List.getD_cons_succ, D.int_i, D.bool_b, D.lst_l, Bool.false_eq_true, ↓reduceIte, dlt_f]
    refine round_exit (by omega) ?_
    show lpRm1 [.i a, .i (E.length : Int), p, q, r, .l E, s, t, u, v, w, .l (wiE (E.take E.length) a)] = _
    simp only [lpRm1, List.take_length]
theorem m51 : Meets Try.prog 51 S51 (R 51) (F 51) := by
  refine meets_of_vt (pre := R) (Φ := F) mixed (sgAt_all (P := Try.prog) (pre := R) (Φ := F) (l := sg51) (List.forall_mem_cons.2 ⟨Meets.at (pre := R) (Φ := F) m68, (fun _ h => nomatch h)⟩)) Try.func51 b51 n51 (loops_n 2 k51 fun k hk => match k, hk with | 0, _ => loop_this lf51_0 loopM51_0 | 1, _ => loop_this lf51_1 loopM51_1) e51 fun ds hf hq => ?_
  obtain ⟨g, ds', rfl, h5, _, ⟨_, hN⟩, _⟩ := fitsG hf.flat
  obtain ⟨y, rfl, hy⟩ := fits1 h5
  obtain ⟨a, rfl, _⟩ := wf_i64 hy
  obtain ⟨h0, h1, h2⟩ : prAt _ := hq
  have h0 : 0 ≤ a := h0
  have h1 : g.N.length ≤ 1000000 := h1
  have h2 : g.E.length ≤ 1000000 := h2
  obtain ⟨n, rfl⟩ := Int.eq_ofNat_of_zero_le h0
  have ez : rmI (g.N.take 0) n = [] := by simp [rmI]
  have p0 : prRm0 [.i (n : Int), .i 0, .s g.nm, .b g.dr, .l g.N, .l g.E, .l g.C, .s g.nm, .b g.dr, .l g.C, .l [], .l []] := ⟨n, _, _, g.N, _, _, _, _, _, _, 0, by rw [ez]; rfl, by omega, h1, fun x hx => fits_node (hN x hx)⟩
  have p1 : ∀ l, prRm1 [.i (n : Int), .i 0, .s g.nm, .b g.dr, .l g.N, .l g.E, .l g.C, .s g.nm, .b g.dr, .l g.C, .l l, .l []] := fun l => ⟨n, _, _, _, g.E, _, _, _, _, _, 0, rfl, by omega, h2⟩
  simp only [vt51, VT.ok, Nd.holds, X.outs, X.ds, X.d, takeD_zero, takeD_cons, List.cons_append, List.nil_append, List.getD_cons_zero, List.getD_cons_succ, D.bool_b, Int.toNat_natCast, F15100, R15100, F15101, R15101, F51, lpRm0, lpRm1]
  exact ⟨fun _ => p0, fun _ => p1 _, rfl⟩
theorem loopM52_0 : LoopMeets Try.prog F (R L52_0.key) L52_0 lb52_0 := by
  refine loop_meets (pre := R) mixed (sgAt_all (P := Try.prog) (pre := R) (Φ := F) (l := sg52) ((fun _ h => nomatch h))) (loops_n 0 lk52_0 fun k hk => by omega) L52_0 (fun ρ => (((ρ.getD 4 default).lst.length : Int) - (ρ.getD 1 default).int).toNat) le52_0 fun ρ _ hq => ?_
  obtain ⟨a, b, c, N, d, e, p, q, r, s, t, u, f, g, h, k, j, rfl, hj, hm, hN⟩ : prCh ρ := hq
  generalize hM : N.set a [p, q, r, s, t, u] = M
  have hML : M.length = N.length := by rw [← hM, List.length_set]
  by_cases hlt : j < N.length
  · have hX : ∀ z, z = el M j → RoundOk F (R L52_0.key) (fun ρ => (((ρ.getD 4 default).lst.length : Int) - (ρ.getD 1 default).int).toNat) L52_0 [.i (a : Int), .i (j : Int), b, c, .l N, d, e, p, q, r, s, t, u, f, g, h, k, .l (M.take j)] [.i (-1), .i ((j : Int) + 1), .l (M.take j ++ [z])] := fun z ez => by
      subst ez
      rw [← take_succ' (by omega)]
      refine round_next ⟨⟨a, b, c, N, d, e, p, q, r, s, t, u, f, g, h, k, j + 1, ?_, by omega, hm, hN⟩, ?_, rfl⟩
      · rw [hM]; rfl
      · show ((N.length : Int) - ((j + 1 : Nat) : Int)).toNat < ((N.length : Int) - (j : Int)).toNat
        omega
    have hrow := hN _ (el_mem hlt)
    have hl : ∀ z : List D, decide (((M.take j ++ [z]).length : Int) ≤ 1759218604441) = true := fun z => decide_eq_true (by simp; omega)
    simp (disch := omega) only [rt52_0, VT.ok, Nd.holds, X.ds, X.d, Op1.ev, Op2.ev, List.getD_cons_zero, List.getD_cons_succ, D.int_i, D.bool_b, D.lst_l, Int.toNat_natCast, implies_true, true_and, ↓reduceIte, dle_t, dlt_t, w64', row6 hrow, hl]
    by_cases hja : j = a
    · subst hja
      simp only [beq_self_eq_true, if_true]
      exact hX _ (by rw [← hM, set_el _ _ _ hlt])
    · have e : ((j : Int) == (a : Int)) = false := beq_f (by omega)
      simp only [e, Bool.false_eq_true, if_false]
      exact hX _ (by rw [← hM]; simp [el, List.getD, Ne.symm hja])
  · have hj' : j = N.length := by omega
    subst hj'
    simp (disch := omega) only [rt52_0, VT.ok, X.ds, X.d, Op1.ev, Op2.ev, List.getD_cons_zero, List.getD_cons_succ, D.int_i, D.bool_b, D.lst_l, Bool.false_eq_true, ↓reduceIte, dlt_f]
    refine round_exit (by omega) ?_
    show lpCh [.i (a : Int), .i (N.length : Int), b, c, .l N, d, e, p, q, r, s, t, u, f, g, h, k, .l (M.take N.length)] = _
    simp only [lpCh, Int.toNat_natCast, hM]
    rw [← hML, List.take_length]
theorem m52 : Meets Try.prog 52 S52 (R 52) (F 52) := by
  refine meets_of_vt (pre := R) (Φ := F) mixed (sgAt_all (P := Try.prog) (pre := R) (Φ := F) (l := sg52) ((fun _ h => nomatch h))) Try.func52 b52 n52 (loops_n 1 k52 fun k hk => match k, hk with | 0, _ => loop_this lf52_0 loopM52_0) e52 fun ds hf hq => ?_
  obtain ⟨g, ds', rfl, h5, _, ⟨_, hN⟩, _⟩ := fitsG hf.flat
  match ds', h5 with
  | y :: ds', ⟨hy, h6⟩ =>
    obtain ⟨a, rfl, _⟩ := wf_i64 hy
    obtain ⟨s, t, w, h, c, ps, rfl⟩ := fits_node h6
    obtain ⟨h0, h1, h2⟩ : prAt _ := hq
    have h0 : 0 ≤ a := h0
    have h1 : g.N.length ≤ 1000000 := h1
    obtain ⟨n, rfl⟩ := Int.eq_ofNat_of_zero_le h0
    have p0 : prCh [.i (n : Int), .i 0, .s g.nm, .b g.dr, .l g.N, .l g.E, .l g.C, .s s, .s t, .i w, .i h, .i c, .l ps, .s g.nm, .b g.dr, .l g.E, .l g.C, .l []] := ⟨n, _, _, g.N, _, _, _, _, _, _, _, _, _, _, _, _, 0, rfl, by omega, h1, fun x hx => fits_node (hN x hx)⟩
    simp only [vt52, VT.ok, Nd.holds, X.outs, X.ds, X.d, takeD_zero, takeD_cons, List.cons_append, List.nil_append, List.getD_cons_zero, List.getD_cons_succ, D.bool_b, Int.toNat_natCast, F15200, R15200, F52, lpCh]
    exact ⟨fun _ => p0, rfl⟩


theorem doneL (nm : ByteArray) (dr : Bool) (N E C : List (List D)) (x : List D) : doneD (.s nm :: .b dr :: .l N :: .l E :: .l C :: x) = (doneG ⟨nm, dr, N, E, C⟩ x).ds := rfl
theorem few64 {g : Gd} (hv : validE g = 0) : g.N.length ≤ 64 ∧ g.E.length ≤ 256 := by
  obtain ⟨⟨h1, h2, _⟩, _⟩ := valid_parts hv
  exact ⟨by omega, by omega⟩
theorem m31 : Meets Try.prog 31 S31 (R 31) (F 31) := by
  refine meets_of_vt (pre := R) (Φ := F) mixed (sgAt_all (P := Try.prog) (pre := R) (Φ := F) (l := sg31) (List.forall_mem_cons.2 ⟨Meets.at (pre := R) (Φ := F) m51, List.forall_mem_cons.2 ⟨Meets.at (pre := R) (Φ := F) m52, (fun _ h => nomatch h)⟩⟩)) Try.func31 b31 n31 (loops_n 0 k31 fun k hk => by omega) e31 fun ds hf hq => ?_
  obtain ⟨g, ds', rfl, h5, _, ⟨_, hN⟩, _⟩ := fitsG hf.flat
  obtain ⟨Y, ds'', rfl, hY, hat, h6⟩ := fitsX h5
  have e0 := fits0 h6
  subst e0
  rw [List.append_nil] at *
  obtain ⟨hv, hi⟩ : prDone _ := hq
  have hv : validE g = 0 := hv
  have hi : insB g Y = true := hi
  obtain ⟨l1, l2⟩ := few64 hv
  have hF : F 31 (.s g.nm :: .b g.dr :: .l g.N :: .l g.E :: .l g.C :: Y) = (doneG g Y).ds := rfl
  rw [hF]
  obtain ⟨k, a, s, t, w, h, c, ps, p, q, r, u, lb, wt, ln, hx⟩ := hY
  have hk : cI Y 0 = k := by rw [hx]; rfl
  have ha : cI Y 1 = a := by rw [hx]; rfl
  rw [ha] at hat
  have hins : insB g Y = if (k == 1) = true then true else if (k == 3) = true then true else if (k == 4) = true then decide (0 ≤ a) && decide (a < (g.E.length : Int)) else decide (0 ≤ a) && decide (a < (g.N.length : Int)) := by unfold insB; rw [hk, ha]
  rw [hins] at hi
  generalize hd : doneG g Y = dg
  unfold doneG at hd
  rw [hk, ha] at hd
  have hl1 : ∀ z : List D, decide (((g.N ++ [z] : List (List D)).length : Int) ≤ 1759218604441) = true := fun z => decide_eq_true (by simp; omega)
  have hl2 : decide (((g.N : List (List D)).length : Int) ≤ 1759218604441) = true := decide_eq_true (by omega)
  have hl3 : ∀ z : List D, decide (((g.E ++ [z] : List (List D)).length : Int) ≤ 2199023255552) = true := fun z => decide_eq_true (by simp; omega)
  have hl4 : decide (((g.E : List (List D)).length : Int) ≤ 2199023255552) = true := decide_eq_true (by omega)
  rw [hx]
  by_cases k1 : k = 1
  · subst k1
    simp only [beq_self_eq_true, if_true] at hd
    subst hd
    simp only [vt31, VT.ok, Nd.holds, X.outs, X.ds, X.d, Op1.ev, Op2.ev, List.cons_append, List.nil_append, List.getD_cons_zero, List.getD_cons_succ, D.int_i, D.bool_b, D.lst_l, Int.toNat_natCast, if_true, implies_true, true_and, F51, R51, F52, R52, beq_self_eq_true, hl1, hl2]
    rw [hx]
    exact rfl
  have b1 := beq_f k1
  simp only [b1, Bool.false_eq_true, if_false] at hd hi
  by_cases k3 : k = 3
  · subst k3
    simp only [beq_self_eq_true, if_true] at hd
    subst hd
    simp only [vt31, VT.ok, Nd.holds, X.outs, X.ds, X.d, Op1.ev, Op2.ev, List.cons_append, List.nil_append, List.getD_cons_zero, List.getD_cons_succ, D.int_i, D.bool_b, D.lst_l, Int.toNat_natCast, if_true, Bool.false_eq_true, if_false, implies_true, true_and, F51, R51, F52, R52, b1, beq_self_eq_true, hl3, hl4]
    rw [hx]
    exact rfl
  have b3 := beq_f k3
  simp only [b3, Bool.false_eq_true, if_false] at hd hi
  by_cases k4 : k = 4
  · subst k4
    simp only [beq_self_eq_true, if_true, Bool.and_eq_true, decide_eq_true_eq] at hd hi
    subst hd
    obtain ⟨n, rfl⟩ := Int.eq_ofNat_of_zero_le hi.1
    have hw : IntKind.i64.wrap ((n : Int) + 1) = (n : Int) + 1 := w64 (by omega)
    have c1 : decide ((0 : Int) ≤ (n : Int)) = true := decide_eq_true (by omega)
    have c2 : decide ((n : Int) ≤ (g.E.length : Int)) = true := decide_eq_true (by omega)
    have c3 : decide ((0 : Int) ≤ (n : Int) + 1) = true := decide_eq_true (by omega)
    have c4 : decide ((n : Int) + 1 ≤ (g.E.length : Int)) = true := decide_eq_true (by omega)
    have c5 : decide ((g.E.length : Int) ≤ (g.E.length : Int)) = true := decide_eq_true (by omega)
    have ht : ((n : Int) + 1).toNat = n + 1 := by omega
    have z0 : (0 : Int).toNat = 0 := rfl
    have hl5 : decide ((((g.E.take n).drop 0 : List (List D)).length : Int) ≤ 2199023255552) = true := decide_eq_true (by simp; omega)
    have hl6 : decide ((((g.E.take n).drop 0 ++ (g.E.take g.E.length).drop (n + 1) : List (List D)).length : Int) ≤ 2199023255552) = true := decide_eq_true (by simp; omega)
    simp only [vt31, VT.ok, Nd.holds, X.outs, X.ds, X.d, Op1.ev, Op2.ev, List.cons_append, List.nil_append, List.getD_cons_zero, List.getD_cons_succ, D.int_i, D.bool_b, D.lst_l, Int.toNat_natCast, if_true, Bool.false_eq_true, if_false, implies_true, true_and, F51, R51, F52, R52, b1, b3, beq_self_eq_true, hw, c1, c2, c3, c4, c5, ht, z0, hl5, hl6]
    simp [rmI, Gd.ds]
  have b4 := beq_f k4
  simp only [b4, Bool.false_eq_true, if_false] at hd hi
  simp only [Bool.and_eq_true, decide_eq_true_eq] at hi
  obtain ⟨n, rfl⟩ := Int.eq_ofNat_of_zero_le hi.1
  have c1 : decide ((0 : Int) ≤ (n : Int)) = true := decide_eq_true (by omega)
  have c2 : decide ((n : Int) < (g.N.length : Int)) = true := decide_eq_true (by omega)
  by_cases k2 : k = 2
  · subst k2
    simp only [beq_self_eq_true, if_true] at hd
    subst hd
    simp only [vt31, VT.ok, Nd.holds, X.outs, X.ds, X.d, Op1.ev, Op2.ev, List.cons_append, List.nil_append, List.getD_cons_zero, List.getD_cons_succ, D.int_i, D.bool_b, D.lst_l, Int.toNat_natCast, if_true, Bool.false_eq_true, if_false, F51, R51, F52, R52, b1, b3, b4, beq_self_eq_true, rmD]
    exact ⟨fun _ => ⟨by show (0 : Int) ≤ (n : Int); omega, by show g.N.length ≤ 1000000; omega, by show g.E.length ≤ 1000000; omega⟩, rfl⟩
  have b2 := beq_f k2
  simp only [b2, Bool.false_eq_true, if_false] at hd
  by_cases k5 : k = 5
  · subst k5
    simp only [beq_self_eq_true, if_true] at hd
    subst hd
    simp only [vt31, VT.ok, Nd.holds, X.outs, X.ds, X.d, Op1.ev, Op2.ev, List.cons_append, List.nil_append, List.getD_cons_zero, List.getD_cons_succ, D.int_i, D.bool_b, D.lst_l, Int.toNat_natCast, if_true, Bool.false_eq_true, if_false, implies_true, true_and, F51, R51, F52, R52, b1, b2, b3, b4, beq_self_eq_true, chD, c1, c2]
    rw [hx]
    exact ⟨fun _ => ⟨by show (0 : Int) ≤ (n : Int); omega, by show g.N.length ≤ 1000000; omega, by show g.E.length ≤ 1000000; omega⟩, rfl⟩
  have b5 := beq_f k5
  simp only [b5, Bool.false_eq_true, if_false] at hd
  by_cases k6 : k = 6
  · subst k6
    simp only [beq_self_eq_true, if_true] at hd
    subst hd
    simp only [vt31, VT.ok, Nd.holds, X.outs, X.ds, X.d, Op1.ev, Op2.ev, List.cons_append, List.nil_append, List.getD_cons_zero, List.getD_cons_succ, D.int_i, D.bool_b, D.lst_l, Int.toNat_natCast, if_true, Bool.false_eq_true, if_false, implies_true, true_and, F51, R51, F52, R52, b1, b2, b3, b4, b5, beq_self_eq_true, chD, c1, c2]
    rw [hx]
    exact ⟨fun _ => ⟨by show (0 : Int) ≤ (n : Int); omega, by show g.N.length ≤ 1000000; omega, by show g.E.length ≤ 1000000; omega⟩, rfl⟩
  have b6 := beq_f k6
  simp only [b6, Bool.false_eq_true, if_false] at hd
  subst hd
  simp only [vt31, VT.ok, Nd.holds, X.outs, X.ds, X.d, Op1.ev, Op2.ev, List.cons_append, List.nil_append, List.getD_cons_zero, List.getD_cons_succ, D.int_i, D.bool_b, D.lst_l, Int.toNat_natCast, Bool.false_eq_true, if_false, F51, R51, F52, R52, b1, b2, b3, b4, b5, b6]
  exact rfl
theorem m11 : Meets Try.prog 11 S11 (R 11) (F 11) := by
  refine meets_of_vt (pre := R) (Φ := F) mixed (sgAt_all (P := Try.prog) (pre := R) (Φ := F) (l := sg11) (List.forall_mem_cons.2 ⟨Meets.at (pre := R) (Φ := F) m28, List.forall_mem_cons.2 ⟨Meets.at (pre := R) (Φ := F) m29, List.forall_mem_cons.2 ⟨Meets.at (pre := R) (Φ := F) m30, List.forall_mem_cons.2 ⟨Meets.at (pre := R) (Φ := F) m31, (fun _ h => nomatch h)⟩⟩⟩⟩)) Try.func11 b11 n11 (loops_n 0 k11 fun k hk => by omega) e11 fun ds hf hq => ?_
  obtain ⟨g, ds', rfl, h5, _, ⟨_, hN⟩, _⟩ := fitsG hf.flat
  obtain ⟨Y, ds'', rfl, hY, hat, h6⟩ := fitsX h5
  have e0 := fits0 h6
  subst e0
  rw [List.append_nil] at *
  have hF : F 11 (.s g.nm :: .b g.dr :: .l g.N :: .l g.E :: .l g.C :: Y) = res (applyG g Y) := rfl
  rw [hF]
  have hfx := used_eq hY
  have hix := ins_eq g hY
  have hdx := doneL g.nm g.dr g.N g.E g.C Y
  have hdp : validE g = 0 → insB g Y = true → prDone (.s g.nm :: .b g.dr :: .l g.N :: .l g.E :: .l g.C :: Y) := fun h1 h2 => ⟨h1, h2⟩
  have e9 : (⟨g.nm, g.dr, g.N, g.E, g.C⟩ : Gd) = g := rfl
  rw [e9] at hdx
  generalize hr : applyG g Y = rr
  have hin : validE g = 0 → fitsB Y = true → insB g Y = true → rr = if validE (doneG g Y) = 0 then (doneG g Y, 0) else (g0, validE (doneG g Y)) := fun h1 h2 h3 => by rw [← hr]; exact apply_in h1 h2 h3
  have hout : validE g = 0 → fitsB Y = true → ¬ insB g Y = true → rr = (g0, 3) := fun h1 h2 h3 => by rw [← hr]; exact apply_out h1 h2 h3
  have hbad : ¬ (validE g = 0 ∧ fitsB Y = true) → rr = (g0, 1) := fun h => by rw [← hr]; exact apply_bad h
  clear hr
  generalize doneG g Y = dg at hin hdx
  generalize insB g Y = ib at hin hout hix hdp
  generalize fitsB Y = fb at hin hout hbad hfx
  obtain ⟨k, a, s, t, w, h, c, ps, p, q, r, u, lb, wt, ln, hx⟩ := hY
  rw [hx] at hfx hix hdx hdp ⊢
  by_cases hv : validE g = 0
  · cases fb with
    | true =>
      cases ib with
      | true =>
        have hh := hin hv rfl rfl
        simp only [vt11, VT.ok, Nd.holds, X.outs, X.ds, X.d, Op1.ev, Op2.ev, takeD_zero, takeD_cons, List.cons_append, List.nil_append, List.getD_cons_zero, List.getD_cons_succ, D.int_i, D.bool_b, Bool.false_eq_true, if_false, implies_true, true_and, F28, R28, F29, R29, F30, R30, F31, R31, validL, hfx, hix, hdx, hv, beq_self_eq_true, Bool.not_true, Bool.false_eq_true, if_false, Gd.ds]
        exact ⟨fun _ => hdp hv rfl, fin_ok _ _ _ _ _ hh⟩
      | false =>
        have hh := hout hv rfl (by decide)
        subst hh
        simp only [vt11, VT.ok, Nd.holds, X.outs, X.ds, X.d, Op1.ev, Op2.ev, takeD_zero, takeD_cons, List.cons_append, List.nil_append, List.getD_cons_zero, List.getD_cons_succ, D.int_i, D.bool_b, if_true, Bool.false_eq_true, if_false, implies_true, true_and, F28, R28, F29, R29, F30, R30, F31, R31, validL, hfx, hix, hv, beq_self_eq_true, Bool.not_true, Bool.not_false, Bool.false_eq_true, if_false, if_true]
        exact rfl
    | false =>
      have hh := hbad (fun hh => by cases hh.2)
      subst hh
      simp only [vt11, VT.ok, Nd.holds, X.outs, X.ds, X.d, Op1.ev, Op2.ev, takeD_zero, takeD_cons, List.cons_append, List.nil_append, List.getD_cons_zero, List.getD_cons_succ, D.int_i, D.bool_b, if_true, Bool.false_eq_true, if_false, implies_true, true_and, takeD1_0, F28, R28, F29, R29, F30, R30, F31, R31, validL, hfx, hv, beq_self_eq_true, Bool.not_true, Bool.not_false, if_true]
      exact rfl
  · have hh := hbad (fun hh => hv hh.1)
    subst hh
    simp only [vt11, VT.ok, Nd.holds, X.outs, X.ds, X.d, Op1.ev, Op2.ev, takeD_zero, takeD_cons, List.cons_append, List.nil_append, List.getD_cons_zero, List.getD_cons_succ, D.int_i, D.bool_b, if_true, Bool.false_eq_true, implies_true, true_and, takeD1_0, F28, R28, F29, R29, F30, R30, F31, R31, validL, hfx, beq_f hv, Bool.not_false, if_true]
    exact rfl
end Go.Proofs.Ythnilbkkihmpoaa.rv
