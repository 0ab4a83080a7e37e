/-
  Graphs: names' places, ports, nodes.; Graphs: nodes.; Graphs: clusters around a cluster; clusters; edges.; Graphs: what is valid.; Nested clusters: what is handed in is in order.; Nested clusters: the loop over the clusters, sizes.; Nested clusters: places of nodes and clusters: the program.
-/
import Derived.Test.YtindllmeeckfcaaZCompoundChecksL
namespace Go.Proofs.Ytindllmeeckfcaa.rv
set_option maxRecDepth 10000
open Go.RV
theorem m81 : Meets Try.prog 81 S81 (R 81) (F 81) := by
  refine meets_of_vt (pre := R) (Φ := F) mixed (sgAt_all (P := Try.prog) (pre := R) (Φ := F) (l := sg81) (List.forall_mem_cons.2 ⟨Meets.at (pre := R) (Φ := F) m104, (fun _ h => nomatch h)⟩)) Try.func81 b81 n81 (loops_n 0 k81 fun k hk => by omega) e81 fun ds hf _ => ?_
  obtain ⟨g, ds', rfl, h5, _⟩ := fitsG hf.flat
  obtain ⟨x, rfl, hx⟩ := fits1 h5
  obtain ⟨nm, rfl, _⟩ := wf_str hx
  simp only [vt81, VT.ok, Nd.holds, X.outs, X.ds, X.d, List.cons_append, List.nil_append, List.getD_cons_zero, List.getD_cons_succ, D.bool_b, takeD1_0, F104, R104, F81]
  exact ⟨fun _ i _ => ⟨[.s nm], cellsN 6 (el g.N i), rfl, rfl, cellsN_length 6 _⟩, rfl⟩
theorem loopM93_0 : LoopMeets Try.prog F (R L93_0.key) L93_0 lb93_0 := by
  refine loop_meets (pre := R) mixed (sgAt_all (P := Try.prog) (pre := R) (Φ := F) (l := sg93) ((fun _ h => nomatch h))) (loops_n 0 lk93_0 fun k hk => by omega) L93_0 (fun ρ => (((ρ.getD 5 default).lst.length : Int) - (ρ.getD 2 default).int).toNat) le93_0 fun ρ _ hq => ?_
  obtain ⟨nm, v, g, j, rfl, hj, hm⟩ : prFind ρ := hq
  rw [maxLen_val] at hm
  by_cases hlt : j < g.N.length
  · simp (disch := omega) only [rt93_0, VT.ok, Nd.holds, X.ds, X.d, Op1.ev, Op2.ev, List.getD_cons_zero, List.getD_cons_succ, D.int_i, D.bool_b, D.lst_l, D.str_s, Int.toNat_natCast, implies_true, true_and, ↓reduceIte, dle_t, dlt_t, w64']
    show if nmP g.N nm j = true then _ else _
    cases hb : nmP g.N nm j
    · simp only [Bool.false_eq_true, if_false]
      refine round_next ⟨⟨nm, v, g, j + 1, rfl, by omega, hm⟩, ?_, ?_⟩
      · show ((g.N.length : Int) - ((j + 1 : Nat) : Int)).toNat < ((g.N.length : Int) - (j : Int)).toNat
        omega
      · show lpFind [.s nm, v, .i ((j + 1 : Nat) : Int), .s g.nm, .b g.dr, .l g.N, .l g.E, .l g.C] = lpFind [.s nm, v, .i (j : Int), .s g.nm, .b g.dr, .l g.N, .l g.E, .l g.C]
        simp only [lpFind, Int.toNat_natCast]
        exact scan_next hlt hb
    · simp only [if_true]
      refine round_exit (by omega) ?_
      show lpFind [.s nm, v, .i (j : Int), .s g.nm, .b g.dr, .l g.N, .l g.E, .l g.C] = _
      simp only [lpFind, Int.toNat_natCast]
      exact scan_hit hlt hb
  · have hj' : j = g.N.length := by omega
    subst hj'
    simp (disch := omega) only [rt93_0, VT.ok, X.ds, X.d, Op1.ev, Op2.ev, List.getD_cons_zero, List.getD_cons_succ, D.int_i, D.bool_b, D.lst_l, Bool.false_eq_true, ↓reduceIte, dlt_f]
    refine round_exit (by omega) ?_
    show lpFind [.s nm, v, .i (g.N.length : Int), .s g.nm, .b g.dr, .l g.N, .l g.E, .l g.C] = _
    simp only [lpFind, Int.toNat_natCast]
    exact scan_end
theorem m93 : Meets Try.prog 93 S93 (R 93) (F 93) := by
  refine meets_of_vt (pre := R) (Φ := F) mixed (sgAt_all (P := Try.prog) (pre := R) (Φ := F) (l := sg93) ((fun _ h => nomatch h))) Try.func93 b93 n93 (loops_n 1 k93 fun k hk => match k, hk with | 0, _ => loop_this lf93_0 loopM93_0) e93 fun ds hf _ => ?_
  obtain ⟨g, ds', rfl, h5, _, ⟨hm, _⟩, _⟩ := fitsG hf.flat
  obtain ⟨x, rfl, hx⟩ := fits1 h5
  obtain ⟨nm, rfl, _⟩ := wf_str hx
  have hpre : prFind [.s nm, .i 0, .i 0, .s g.nm, .b g.dr, .l g.N, .l g.E, .l g.C] := ⟨nm, _, g, 0, rfl, by omega, hm⟩
  simp only [vt93, VT.ok, Nd.holds, X.outs, X.ds, X.d, Op2.ev, List.cons_append, List.nil_append, List.getD_cons_zero, List.getD_cons_succ, D.int_i, D.bool_b, F19300, R19300, F93]
  refine ⟨fun _ => hpre, ?_⟩
  simp only [lpFind, findD, find, Int.toNat_zero, Nat.sub_zero, scan_fs, ixI, cL, cS, List.getD_cons_zero, List.getD_cons_succ, D.lst_l, D.str_s]
  split <;> rfl
theorem find_le {N : List (List D)} {i : Nat} (h : i < N.length) : 0 ≤ find N (cS (el N i) 0) ∧ find N (cS (el N i) 0) ≤ i := by
  have h1 : fs (nmP N (cS (el N i) 0)) N.length ≤ i := by
    rcases Nat.lt_or_ge i (fs (nmP N (cS (el N i) 0)) N.length) with h2 | h2
    · have := fs_min h2
      simp at this
    · exact h2
  unfold find ixI
  rw [if_pos (by omega)]
  omega
theorem el_take {xs : List (List D)} {i j : Nat} (h : i < j) : el (xs.take j) i = el xs i := by
  simp only [el, List.getD, List.getElem?_take, if_pos h]
theorem any_take {xs : List (List D)} {nm : ByteArray} {j : Nat} (h : j ≤ xs.length) : anyN (nmP (xs.take j) nm) (xs.take j).length = anyN (nmP xs nm) j := by
  rw [List.length_take, Nat.min_eq_left h]
  exact anyN_congr fun k hk => by simp only [nmP, el_take hk]
theorem loopM84_0 : LoopMeets Try.prog F (R L84_0.key) L84_0 lb84_0 := by
  refine loop_meets (pre := R) mixed (sgAt_all (P := Try.prog) (pre := R) (Φ := F) (l := sg84) (List.forall_mem_cons.2 ⟨Meets.at (pre := R) (Φ := F) m52, List.forall_mem_cons.2 ⟨Meets.at (pre := R) (Φ := F) m106, (fun _ h => nomatch h)⟩⟩)) (loops_n 0 lk84_0 fun k hk => by omega) L84_0 (fun ρ => ((ρ.getD 3 default).int - (ρ.getD 4 default).int).toNat) le84_0 fun ρ _ hq => ?_
  obtain ⟨xs, v, j, rfl, hj, hm⟩ : prPorts ρ := hq
  rw [maxLen_val] at hm
  by_cases hlt : j < xs.length
  · have hN : portE xs j = 0 → RoundOk F (R L84_0.key) (fun ρ => ((ρ.getD 3 default).int - (ρ.getD 4 default).int).toNat) L84_0 [.l xs, v, .l xs, .i (xs.length : Int), .i (j : Int)] [.i (-1), v, .i ((j + 1 : Nat) : Int)] := fun h0 => by
      refine round_next ⟨⟨xs, v, j + 1, rfl, by omega, hm⟩, ?_, ?_⟩
      · show ((xs.length : Int) - ((j + 1 : Nat) : Int)).toNat < ((xs.length : Int) - (j : Int)).toNat
        omega
      · show lpPorts [.l xs, v, .l xs, .i (xs.length : Int), .i ((j + 1 : Nat) : Int)] = lpPorts [.l xs, v, .l xs, .i (xs.length : Int), .i (j : Int)]
        simp only [lpPorts, errLp, Int.toNat_natCast]
        exact scan_next hlt (by simp only [er, h0]; rfl)
    have hX : ∀ z : Int, portE xs j = z → z ≠ 0 → RoundOk F (R L84_0.key) (fun ρ => ((ρ.getD 3 default).int - (ρ.getD 4 default).int).toNat) L84_0 [.l xs, v, .l xs, .i (xs.length : Int), .i (j : Int)] [.i 0, .i z, .i (j : Int)] := fun z h0 hz => by
      refine round_exit (by omega) ?_
      show lpPorts [.l xs, v, .l xs, .i (xs.length : Int), .i (j : Int)] = _
      simp only [lpPorts, errLp, Int.toNat_natCast]
      rw [← h0]
      exact scan_hit hlt (by simp only [er, h0]; simpa using hz)
    simp (disch := omega) only [rt84_0, VT.ok, Nd.holds, X.outs, X.ds, X.d, Op1.ev, Op2.ev, takeD_zero, takeD_cons, List.cons_append, List.nil_append, List.getD_cons_zero, List.getD_cons_succ, D.int_i, D.bool_b, D.lst_l, ite_b, ite_or, Int.toNat_natCast, implies_true, true_and, takeD1_0, F52, R52, F106, R106, ↓reduceIte, dle_t, dlt_t, w64', nameD, cS]
    cases h1 : isName (cS (el xs j) 0)
    · simp only [Bool.not_false, if_true]
      exact hX 5 (by simp only [portE, h1, Bool.false_eq_true, if_false]) (by omega)
    · simp only [Bool.not_true, Bool.false_eq_true, if_false]
      refine ⟨fun _ i _ => ⟨_, cellsN 2 _, rfl, rfl, cellsN_length 2 _⟩, ?_⟩
      show if anyN (nmP (xs.take j) (cS (el xs j) 0)) (xs.take j).length = true then _ else _
      rw [any_take hj]
      cases h2 : anyN (nmP xs (cS (el xs j) 0)) j
      · simp only [Bool.false_eq_true, if_false]
        by_cases h3 : cI (el xs j) 1 < 0 ∨ 3 < cI (el xs j) 1
        · rw [if_pos (by exact dor_t h3)]
          exact hX 7 (by simp only [portE, h1, h2, if_true, Bool.false_eq_true, if_false, if_pos h3]) (by omega)
        · rw [if_neg (by exact dor_f h3)]
          exact hN (by simp only [portE, h1, h2, if_true, Bool.false_eq_true, if_false, if_neg h3])
      · simp only [if_true]
        exact hX 6 (by simp only [portE, h1, h2, if_true]) (by omega)
  · have hj' : j = xs.length := by omega
    subst hj'
    simp (disch := omega) only [rt84_0, VT.ok, X.ds, X.d, Op2.ev, List.getD_cons_zero, List.getD_cons_succ, D.int_i, D.bool_b, Bool.false_eq_true, ↓reduceIte, dlt_f]
    refine round_exit (by omega) ?_
    show lpPorts [.l xs, v, .l xs, .i (xs.length : Int), .i (xs.length : Int)] = _
    simp only [lpPorts, errLp, Int.toNat_natCast]
    exact scan_end
theorem m84 : Meets Try.prog 84 S84 (R 84) (F 84) := by
  refine meets_of_vt (pre := R) (Φ := F) mixed (sgAt_all (P := Try.prog) (pre := R) (Φ := F) (l := sg84) (List.forall_mem_cons.2 ⟨Meets.at (pre := R) (Φ := F) m52, List.forall_mem_cons.2 ⟨Meets.at (pre := R) (Φ := F) m106, (fun _ h => nomatch h)⟩⟩)) Try.func84 b84 n84 (loops_n 1 k84 fun k hk => match k, hk with | 0, _ => loop_this lf84_0 loopM84_0) e84 fun ds hf _ => ?_
  obtain ⟨x, rfl, hx⟩ := fits1 hf.flat
  obtain ⟨xs, rfl, hm, _⟩ := wf_sl hx
  have hpre : prPorts [.l xs, .i 0, .l xs, .i (xs.length : Int), .i 0] := ⟨xs, _, 0, rfl, by omega, hm⟩
  by_cases h : 8 < (xs.length : Int)
  · simp (disch := omega) only [vt84, VT.ok, X.ds, X.d, Op1.ev, Op2.ev, List.getD_cons_zero, D.int_i, D.bool_b, D.lst_l, F84, ↓reduceIte, dlt_t, ports8D, ports8, cL, if_pos h]
  · simp (disch := omega) only [vt84, VT.ok, Nd.holds, X.outs, X.ds, X.d, Op1.ev, Op2.ev, List.cons_append, List.nil_append, List.getD_cons_zero, List.getD_cons_succ, D.int_i, D.bool_b, D.lst_l, Bool.false_eq_true, F18400, R18400, F84, ↓reduceIte, dlt_f, ports8D, ports8, cL, if_neg h]
    refine ⟨fun _ => hpre, ?_⟩
    simp only [lpPorts, Int.toNat_zero, portsE]
    rcases errLp_two (portE xs) (.i 0) xs.length with ⟨h1, h2⟩ | ⟨h1, _, h2⟩ <;> simp (disch := omega) only [h1, h2, takeD_zero, takeD_cons, List.getD_cons_zero, List.getD_cons_succ, D.int_i, Bool.false_eq_true, ↓reduceIte, beq_t, beq_f]
theorem loopM95_1 : LoopMeets Try.prog F (R L95_1.key) L95_1 lb95_1 := by
  refine loop_meets (pre := R) mixed (sgAt_all (P := Try.prog) (pre := R) (Φ := F) (l := sg95) (List.forall_mem_cons.2 ⟨Meets.at (pre := R) (Φ := F) m68, (fun _ h => nomatch h)⟩)) (loops_n 0 lk95_1 fun k hk => by omega) L95_1 (fun ρ => ((ρ.getD 2 default).int - (ρ.getD 3 default).int).toNat) le95_1 fun ρ _ hq => ?_
  obtain ⟨xs, v, i, j, rfl, hj, hi, hm⟩ : prPortsI ρ := hq
  rw [maxLen_val] at hm
  by_cases hlt : j < i
  · simp (disch := omega) only [rt95_1, VT.ok, Nd.holds, X.ds, X.d, Op1.ev, Op2.ev, List.getD_cons_zero, List.getD_cons_succ, D.int_i, D.bool_b, D.lst_l, Int.toNat_natCast, implies_true, true_and, ↓reduceIte, dle_t, dlt_t, w64']
    show if nmP xs (cS (el xs i) 0) j = true then _ else _
    cases hb : nmP xs (cS (el xs i) 0) j
    · simp only [Bool.false_eq_true, if_false]
      refine round_next ⟨⟨xs, v, i, j + 1, rfl, by omega, hi, hm⟩, ?_, ?_⟩
      · show ((i : Int) - ((j + 1 : Nat) : Int)).toNat < ((i : Int) - (j : Int)).toNat
        omega
      · show lpPortsI [.l xs, v, .i (i : Int), .i ((j + 1 : Nat) : Int)] = lpPortsI [.l xs, v, .i (i : Int), .i (j : Int)]
        simp only [lpPortsI, Int.toNat_natCast]
        exact scan_next hlt hb
    · simp only [if_true]
      refine round_exit (by omega) ?_
      show lpPortsI [.l xs, v, .i (i : Int), .i (j : Int)] = _
      simp only [lpPortsI, Int.toNat_natCast]
      exact scan_hit hlt hb
  · have hj' : j = i := by omega
    subst hj'
    simp (disch := omega) only [rt95_1, VT.ok, X.ds, X.d, Op2.ev, List.getD_cons_zero, List.getD_cons_succ, D.int_i, D.bool_b, Bool.false_eq_true, ↓reduceIte, dlt_f]
    refine round_exit (by omega) ?_
    show lpPortsI [.l xs, v, .i (j : Int), .i (j : Int)] = _
    simp only [lpPortsI, Int.toNat_natCast]
    exact scan_end
theorem loopM95_0 : LoopMeets Try.prog F (R L95_0.key) L95_0 lb95_0 := by
  refine loop_meets (pre := R) mixed (sgAt_all (P := Try.prog) (pre := R) (Φ := F) (l := sg95) (List.forall_mem_cons.2 ⟨Meets.at (pre := R) (Φ := F) m68, (fun _ h => nomatch h)⟩)) (loops_n 1 lk95_0 fun k hk => match k, hk with | 0, _ => by rw [li95_0_0]; exact loop_this lf95_1 loopM95_1) L95_0 (fun ρ => (((ρ.getD 0 default).lst.length : Int) - (ρ.getD 2 default).int).toNat) le95_0 fun ρ _ hq => ?_
  obtain ⟨xs, v, j, rfl, hj, hm⟩ : prPortsR ρ := hq
  rw [maxLen_val] at hm
  by_cases hlt : j < xs.length
  · have hN : portE xs j = 0 → RoundOk F (R L95_0.key) (fun ρ => (((ρ.getD 0 default).lst.length : Int) - (ρ.getD 2 default).int).toNat) L95_0 [.l xs, v, .i (j : Int)] [.i (-1), v, .i ((j + 1 : Nat) : Int)] := fun h0 => by
      refine round_next ⟨⟨xs, v, j + 1, rfl, by omega, hm⟩, ?_, ?_⟩
      · show ((xs.length : Int) - ((j + 1 : Nat) : Int)).toNat < ((xs.length : Int) - (j : Int)).toNat
        omega
      · show lpPortsR [.l xs, v, .i ((j + 1 : Nat) : Int)] = lpPortsR [.l xs, v, .i (j : Int)]
        simp only [lpPortsR, errLp, Int.toNat_natCast]
        exact scan_next hlt (by simp only [er, h0]; rfl)
    have hX : ∀ z : Int, portE xs j = z → z ≠ 0 → RoundOk F (R L95_0.key) (fun ρ => (((ρ.getD 0 default).lst.length : Int) - (ρ.getD 2 default).int).toNat) L95_0 [.l xs, v, .i (j : Int)] [.i 0, .i z, .i (j : Int)] := fun z h0 hz => by
      refine round_exit (by omega) ?_
      show lpPortsR [.l xs, v, .i (j : Int)] = _
      simp only [lpPortsR, errLp, Int.toNat_natCast]
      rw [← h0]
      exact scan_hit hlt (by simp only [er, h0]; simpa using hz)
    have hpre : prPortsI [.l xs, v, .i (j : Int), .i 0] := ⟨xs, v, j, 0, rfl, by omega, hlt, by rw [maxLen_val]; omega⟩
    simp (disch := omega) only [rt95_0, VT.ok, Nd.holds, X.outs, X.ds, X.d, Op1.ev, Op2.ev, takeD_zero, takeD_cons, List.cons_append, List.nil_append, List.getD_cons_zero, List.getD_cons_succ, D.int_i, D.bool_b, D.lst_l, ite_b, ite_or, Int.toNat_natCast, implies_true, true_and, F68, R68, F19500, R19500, ↓reduceIte, dle_t, dlt_t, w64', nameD, cS, lpPortsI, Int.toNat_natCast, Int.toNat_zero, Nat.sub_zero]
    cases h1 : isName (cS (el xs j) 0)
    · simp only [Bool.not_false, if_true]
      exact hX 5 (by simp only [portE, h1, Bool.false_eq_true, if_false]) (by omega)
    · simp only [Bool.not_true, Bool.false_eq_true, if_false]
      refine ⟨fun _ => hpre, ?_⟩
      rcases scan_two (p := nmP xs (cS (el xs j) 0)) j with ⟨h2, k, _, _, _, h⟩ | ⟨h2, h⟩
      · simp only [h, takeD_zero, takeD_cons, List.getD_cons_zero, List.getD_cons_succ, D.int_i, ↓reduceIte, beq_t]
        exact hX 6 (by simp only [portE, h1, h2, if_true]) (by omega)
      · simp (disch := omega) only [h, takeD_zero, takeD_cons, List.getD_cons_zero, List.getD_cons_succ, D.int_i, Bool.false_eq_true, ↓reduceIte, beq_f]
        by_cases h3 : cI (el xs j) 1 < 0 ∨ 3 < cI (el xs j) 1
        · rw [if_pos (by exact dor_t h3)]
          exact hX 7 (by simp only [portE, h1, h2, if_true, Bool.false_eq_true, if_false, if_pos h3]) (by omega)
        · rw [if_neg (by exact dor_f h3)]
          exact hN (by simp only [portE, h1, h2, if_true, Bool.false_eq_true, if_false, if_neg h3])
  · have hj' : j = xs.length := by omega
    subst hj'
    simp (disch := omega) only [rt95_0, VT.ok, X.ds, X.d, Op1.ev, Op2.ev, List.getD_cons_zero, List.getD_cons_succ, D.int_i, D.bool_b, D.lst_l, Bool.false_eq_true, ↓reduceIte, dlt_f]
    refine round_exit (by omega) ?_
    show lpPortsR [.l xs, v, .i (xs.length : Int)] = _
    simp only [lpPortsR, errLp, Int.toNat_natCast]
    exact scan_end
theorem m95 : Meets Try.prog 95 S95 (R 95) (F 95) := by
  refine meets_of_vt (pre := R) (Φ := F) mixed (sgAt_all (P := Try.prog) (pre := R) (Φ := F) (l := sg95) (List.forall_mem_cons.2 ⟨Meets.at (pre := R) (Φ := F) m68, (fun _ h => nomatch h)⟩)) Try.func95 b95 n95 (loops_n 2 k95 fun k hk => match k, hk with | 0, _ => loop_this lf95_0 loopM95_0 | 1, _ => loop_this lf95_1 loopM95_1) e95 fun ds hf _ => ?_
  obtain ⟨x, rfl, hx⟩ := fits1 hf.flat
  obtain ⟨xs, rfl, hm, _⟩ := wf_sl hx
  have hpre : prPortsR [.l xs, .i 0, .i 0] := ⟨xs, _, 0, rfl, by omega, hm⟩
  simp (disch := omega) only [vt95, VT.ok, Nd.holds, X.outs, X.ds, X.d, Op2.ev, List.cons_append, List.nil_append, List.getD_cons_zero, List.getD_cons_succ, D.int_i, D.bool_b, D.lst_l, F19501, R19501, F95, portsD, cL]
  refine ⟨fun _ => hpre, ?_⟩
  simp only [lpPortsR, Int.toNat_zero, portsE]
  rcases errLp_two (portE xs) (.i 0) xs.length with ⟨h1, h2⟩ | ⟨h1, _, h2⟩ <;> simp (disch := omega) only [h1, h2, takeD_zero, takeD_cons, List.getD_cons_zero, List.getD_cons_succ, D.int_i, Bool.false_eq_true, ↓reduceIte, beq_t, beq_f]
end Go.Proofs.Ytindllmeeckfcaa.rv
namespace Go.Proofs.Ytindllmeeckfcaa.rv
set_option maxRecDepth 10000
open Go.RV
theorem if4 (a b c d : Bool) (p : Int) : if (!a || !b || c || d) = true then [D.i 3] = [D.i (if (a && b && !c && !d) = true then p else 3)] else [D.i p] = [D.i (if (a && b && !c && !d) = true then p else 3)] := by
  cases a <;> cases b <;> cases c <;> cases d <;> rfl
theorem m53 : Meets Try.prog 53 S53 (R 53) (F 53) := by
  refine meets_of_vt (pre := R) (Φ := F) mixed (sgAt_all (P := Try.prog) (pre := R) (Φ := F) (l := sg53) (List.forall_mem_cons.2 ⟨Meets.at (pre := R) (Φ := F) m52, List.forall_mem_cons.2 ⟨Meets.at (pre := R) (Φ := F) m81, List.forall_mem_cons.2 ⟨Meets.at (pre := R) (Φ := F) m82, List.forall_mem_cons.2 ⟨Meets.at (pre := R) (Φ := F) m83, List.forall_mem_cons.2 ⟨Meets.at (pre := R) (Φ := F) m84, (fun _ h => nomatch h)⟩⟩⟩⟩⟩)) Try.func53 b53 n53 (loops_n 0 k53 fun k hk => by omega) e53 fun ds hf hq => ?_
  obtain ⟨g, ds', rfl, h5, _, ⟨hmN, hN⟩, _⟩ := fitsG hf.flat
  obtain ⟨x, rfl, hx⟩ := fits1 h5
  obtain ⟨i, e, hi⟩ : prNode (.s g.nm :: .b g.dr :: .l g.N :: .l g.E :: .l g.C :: [x]) := hq
  have e : x = .i (i : Int) := e
  subst e
  have hi : i < g.N.length := hi
  simp (disch := omega) only [vt53, VT.ok, Nd.holds, X.outs, X.ds, X.d, Op1.ev, Op2.ev, takeD_zero, takeD_cons, List.cons_append, List.nil_append, List.getD_cons_zero, List.getD_cons_succ, D.int_i, D.bool_b, D.lst_l, ite_b, ite_or, Int.toNat_natCast, implies_true, true_and, F52, R52, F81, R81, F82, R82, F83, R83, F84, R84, F53, dle_t, dlt_t, nameD, findD, labelD, fn83_eq, sizedD, ports8D, nodeD, nodeE, cS, cI, cL, Int.toNat_natCast]
  cases h1 : isName (cS (el g.N i) 0)
  · simp only [Bool.not_false, if_true, Bool.false_eq_true, if_false]
  · simp only [Bool.not_true, if_true, Bool.false_eq_true, if_false]
    by_cases h2 : find g.N (cS (el g.N i) 0) < i
    · rw [if_pos (by exact dec_t h2), if_pos h2]
    · rw [if_neg (by exact dec_f h2), if_neg h2]
      by_cases h3 : labelE (cS (el g.N i) 1) = 0
      · rw [if_neg (by exact bne_f h3), if_pos h3]
        exact if4 _ _ _ _ _
      · rw [if_pos (by exact bne_t h3), if_neg h3]
theorem m69 : Meets Try.prog 69 S69 (R 69) (F 69) := by
  refine meets_of_vt (pre := R) (Φ := F) mixed (sgAt_all (P := Try.prog) (pre := R) (Φ := F) (l := sg69) (List.forall_mem_cons.2 ⟨Meets.at (pre := R) (Φ := F) m68, List.forall_mem_cons.2 ⟨Meets.at (pre := R) (Φ := F) m93, List.forall_mem_cons.2 ⟨Meets.at (pre := R) (Φ := F) m94, List.forall_mem_cons.2 ⟨Meets.at (pre := R) (Φ := F) m95, (fun _ h => nomatch h)⟩⟩⟩⟩)) Try.func69 b69 n69 (loops_n 0 k69 fun k hk => by omega) e69 fun ds hf hq => ?_
  obtain ⟨g, ds', rfl, h5, _, ⟨hmN, hN⟩, _⟩ := fitsG hf.flat
  obtain ⟨x, rfl, hx⟩ := fits1 h5
  obtain ⟨i, e, hi⟩ : prNode (.s g.nm :: .b g.dr :: .l g.N :: .l g.E :: .l g.C :: [x]) := hq
  have e : x = .i (i : Int) := e
  subst e
  have hi : i < g.N.length := hi
  have hfl := find_le hi
  have hF : F 69 (.s g.nm :: .b g.dr :: .l g.N :: .l g.E :: .l g.C :: [.i (i : Int)]) = [.i (nodeE g.N g.C i)] := rfl
  rw [hF]
  generalize hv : nodeE g.N g.C i = res
  unfold nodeE at hv
  simp (disch := omega) only [vt69, VT.ok, Nd.holds, X.outs, X.ds, X.d, Op1.ev, Op2.ev, takeD_zero, takeD_cons, List.cons_append, List.nil_append, List.getD_cons_zero, List.getD_cons_succ, D.int_i, D.bool_b, D.lst_l, ite_b, ite_or, Int.toNat_natCast, implies_true, true_and, F68, R68, F93, R93, F94, R94, F95, R95, dle_t, dlt_t, nameD, findD, plainD, portsD, cS, cL, Int.toNat_natCast]
  cases h1 : isName (cS (el g.N i) 0)
  · rw [h1] at hv
    simp only [Bool.not_false, if_true]
    rw [← hv]; rfl
  · simp only [h1, if_true] at hv
    simp only [Bool.not_true, Bool.false_eq_true, if_false]
    by_cases h2 : find g.N (cS (el g.N i) 0) < i
    · rw [if_pos h2] at hv
      have h2' : find g.N (cS (el g.N i) 0) ≠ i := by omega
      rw [if_pos (by exact bne_t h2'), ← hv]
    · rw [if_neg h2] at hv
      have h2' : find g.N (cS (el g.N i) 0) = i := by omega
      rw [if_neg (by exact bne_f h2')]
      by_cases h4 : 32 < ((cS (el g.N i) 1).size : Int)
      · have h3 : labelE (cS (el g.N i) 1) = 2 := by rw [labelE, if_pos h4]
        rw [h3, if_neg (by decide)] at hv
        rw [if_pos (by exact dec_t h4), ← hv]
      · rw [if_neg (by exact dec_f h4)]
        cases h6 : plainB (cS (el g.N i) 1)
        · have h3 : labelE (cS (el g.N i) 1) = 7 := by rw [labelE, if_neg h4, h6]; rfl
          rw [h3, if_neg (by decide)] at hv
          simp only [Bool.not_false, if_true]
          rw [← hv]
        · have h3 : labelE (cS (el g.N i) 1) = 0 := by rw [labelE, if_neg h4, h6]; rfl
          rw [h3, if_pos rfl] at hv
          simp only [Bool.not_true, Bool.false_eq_true, if_false]
          have f : ∀ x : Int, sizedB x = !(decide (x < 1) || decide (1048576 < x)) := fun x => by
            unfold sizedB
            rw [Bool.not_or, ← decide_not, ← decide_not]
            congr 1 <;> exact decide_eq_decide.2 (by omega)
          have e : (sizedB (cI (el g.N i) 2) && sizedB (cI (el g.N i) 3) && !decide (cI (el g.N i) 4 < -1) && !decide ((g.C.length : Int) ≤ cI (el g.N i) 4)) = !(((((decide (cI (el g.N i) 2 < 1) || decide (1048576 < cI (el g.N i) 2)) || decide (cI (el g.N i) 3 < 1)) || decide (1048576 < cI (el g.N i) 3)) || decide (cI (el g.N i) 4 < -1)) || decide ((g.C.length : Int) ≤ cI (el g.N i) 4)) := by
            rw [f, f]
            simp only [Bool.not_or, Bool.and_assoc]
          rw [e] at hv
          cases hc : (((((decide (cI (el g.N i) 2 < 1) || decide (1048576 < cI (el g.N i) 2)) || decide (cI (el g.N i) 3 < 1)) || decide (1048576 < cI (el g.N i) 3)) || decide (cI (el g.N i) 4 < -1)) || decide ((g.C.length : Int) ≤ cI (el g.N i) 4))
          · rw [hc] at hv
            rw [if_neg (by first | exact ne_true_of_eq_false hc | decide)]
            have hv : ports8 (cL (el g.N i) 5) = res := hv
            by_cases h8 : 8 < ((cL (el g.N i) 5).length : Int)
            · rw [ports8, if_pos h8] at hv
              rw [if_pos (by exact dec_t h8), ← hv]
            · rw [ports8, if_neg h8] at hv
              rw [if_neg (by exact dec_f h8), ← hv]
          · rw [hc] at hv
            rw [if_pos (by first | exact hc | rfl), ← hv]; rfl
end Go.Proofs.Ytindllmeeckfcaa.rv
namespace Go.Proofs.Ytindllmeeckfcaa.rv
set_option maxRecDepth 10000
open Go.RV
theorem up_fuel {C : List (List D)} : ∀ (f f' : Nat) (c : Int), c < f → c < f' → okC C (c + 1).toNat → up C f c = up C f' c
  | 0, 0, _, _, _, _ => rfl
  | 0, f' + 1, c, h, _, _ => by simp only [up]; rw [if_neg (by omega)]
  | f + 1, 0, c, _, h, _ => by simp only [up]; rw [if_neg (by omega)]
  | f + 1, f' + 1, c, h, h', hok => by
    simp only [up]
    by_cases h0 : 0 ≤ c
    · rw [if_pos h0, if_pos h0]
      have := hok c.toNat (by omega)
      rw [up_fuel f f' _ (by omega) (by omega) (hok.mono (by omega))]
    · rw [if_neg h0, if_neg h0]
theorem around_neg {C : List (List D)} {c : Int} (h : c < 0) : around C c = [] := by
  unfold around up; rw [if_neg (by omega)]
theorem around_at {C : List (List D)} {c : Int} (h0 : 0 ≤ c) (hok : okC C (c + 1).toNat) : around C c = c :: around C (cI (el C c.toNat) 1) := by
  have hb := hok c.toNat (by omega)
  unfold around
  simp only [up]
  rw [if_pos h0]
  congr 1
  exact up_fuel c.toNat ((cI (el C c.toNat) 1).toNat + 1) (cI (el C c.toNat) 1) (by omega) (by omega) (hok.mono (m := (cI (el C c.toNat) 1 + 1).toNat) (by omega))
theorem atC_up {C : List (List D)} {c : Int} (h : atC C c) (h0 : 0 ≤ c) : atC C (cI (el C c.toNat) 1) := by
  obtain ⟨h1, h2, h3, h4⟩ := h
  have hb := h4 c.toNat (by omega)
  exact ⟨by omega, by omega, h3, h4.mono (m := (cI (el C c.toNat) 1 + 1).toNat) (by omega)⟩
theorem rowI1_of {C : List (List D)} (h : ∀ x ∈ C, FitsF [.str, .int .i64] x) : rowI1 C := fun i hi => by
  have hx := h (el C i) (getD_mem [] hi)
  obtain ⟨a, b, e, _, hb⟩ := fits2 hx
  obtain ⟨z, rfl, _⟩ := wf_i64 hb
  simp only [cI, e]; rfl
theorem loopM89_0 : LoopMeets Try.prog F (R L89_0.key) L89_0 lb89_0 := by
  refine loop_meets (pre := R) mixed (sgAt_all (P := Try.prog) (pre := R) (Φ := F) (l := sg89) ((fun _ h => nomatch h))) (loops_n 0 lk89_0 fun k hk => by omega) L89_0 (fun ρ => ((ρ.getD 0 default).int + 1).toNat) le89_0 fun ρ _ hq => ?_
  obtain ⟨c, g, acc, rfl, hat, hrow, hacc⟩ : prArL ρ := hq
  have hat0 := hat
  obtain ⟨h1, h2, h3, h4⟩ := hat
  by_cases h0 : 0 ≤ c
  · have hn : c.toNat < g.C.length := by omega
    have hr : (g.C.getD c.toNat []).getD 1 default = .i (cI (el g.C c.toNat) 1) := hrow _ hn
    have hb := h4 c.toNat (by omega)
    simp (disch := omega) only [rt89_0, VT.ok, Nd.holds, X.ds, X.d, Op1.ev, Op2.ev, List.getD_cons_zero, List.getD_cons_succ, D.int_i, D.bool_b, D.lst_l, implies_true, true_and, ↓reduceIte, dle_t, dlt_t, hr, List.length_append, List.length_cons, List.length_nil]
    refine round_next ⟨⟨cI (el g.C c.toNat) 1, g, acc ++ [[.i c]], rfl, atC_up hat0 h0, hrow, by rw [List.length_append, List.length_cons, List.length_nil]; omega⟩, ?_, ?_⟩
    · show (cI (el g.C c.toNat) 1 + 1).toNat < (c + 1).toNat
      omega
    · show lpAr [.i (cI (el g.C c.toNat) 1), .s g.nm, .b g.dr, .l g.N, .l g.E, .l g.C, .l (acc ++ [[.i c]])] = lpAr [.i c, .s g.nm, .b g.dr, .l g.N, .l g.E, .l g.C, .l acc]
      simp only [lpAr, around_at h0 h4, List.map_cons, List.append_assoc, List.cons_append, List.nil_append]
      rfl
  · simp (disch := omega) only [rt89_0, VT.ok, X.ds, X.d, Op2.ev, List.getD_cons_zero, List.getD_cons_succ, D.int_i, D.bool_b, Bool.false_eq_true, ↓reduceIte, dle_f]
    refine round_exit (by omega) ?_
    show lpAr [.i c, .s g.nm, .b g.dr, .l g.N, .l g.E, .l g.C, .l acc] = _
    have : c = -1 := by omega
    subst this
    simp only [lpAr, around_neg (show (-1 : Int) < 0 by omega), List.map_nil, List.append_nil]
theorem m89 : Meets Try.prog 89 S89 (R 89) (F 89) := by
  refine meets_of_vt (pre := R) (Φ := F) mixed (sgAt_all (P := Try.prog) (pre := R) (Φ := F) (l := sg89) ((fun _ h => nomatch h))) Try.func89 b89 n89 (loops_n 1 k89 fun k hk => match k, hk with | 0, _ => loop_this lf89_0 loopM89_0) e89 fun ds hf hq => ?_
  obtain ⟨g, ds', rfl, h5, _, _, _, ⟨_, hC⟩⟩ := fitsG hf.flat
  obtain ⟨x, rfl, hx⟩ := fits1 h5
  obtain ⟨c, rfl, _⟩ := wf_i64 hx
  have hq : atC g.C c := hq
  have hpre : prArL [.i c, .s g.nm, .b g.dr, .l g.N, .l g.E, .l g.C, .l []] := ⟨c, g, [], rfl, hq, rowI1_of hC, by have := hq.1; have := hq.2.1; have := hq.2.2.1; simp; omega⟩
  simp only [vt89, VT.ok, Nd.holds, X.outs, X.ds, X.d, takeD_zero, takeD_cons, List.cons_append, List.nil_append, List.getD_cons_zero, List.getD_cons_succ, D.int_i, D.bool_b, D.lst_l, and_true, F18900, R18900, F89, lpAr, aroundD, cL, cI]
  exact fun _ => hpre
theorem m87 : Meets Try.prog 87 S87 (R 87) (F 87) := by
  refine meets_of_vt (pre := R) (Φ := F) mixed (sgAt_all (P := Try.prog) (pre := R) (Φ := F) (l := sg87) (List.forall_mem_cons.2 ⟨Meets.at (pre := R) (Φ := F) m89, (fun _ h => nomatch h)⟩)) Try.func87 b87 n87 (loops_n 0 k87 fun k hk => by omega) e87 fun ds hf hq => ?_
  obtain ⟨g, ds', rfl, h5, _⟩ := fitsG hf.flat
  obtain ⟨x, rfl, hx⟩ := fits1 h5
  simp only [vt87, VT.ok, Nd.holds, X.outs, X.ds, X.d, Op1.ev, takeD_zero, takeD_cons, List.cons_append, List.nil_append, List.getD_cons_zero, List.getD_cons_succ, D.bool_b, D.lst_l, List.length_map, and_true, F89, R89, F87, aroundD, depthD, depth, cL, cI]
  exact fun _ => hq
theorem depth_at {C : List (List D)} {c : Int} (h0 : 0 ≤ c) (hok : okC C (c + 1).toNat) : depth C c = depth C (cI (el C c.toNat) 1) + 1 := by
  unfold depth; rw [around_at h0 hok]; simp
theorem depth_neg {C : List (List D)} {c : Int} (h : c < 0) : depth C c = 0 := by unfold depth; rw [around_neg h]; rfl
theorem loopM96_0 : LoopMeets Try.prog F (R L96_0.key) L96_0 lb96_0 := by
  refine loop_meets (pre := R) mixed (sgAt_all (P := Try.prog) (pre := R) (Φ := F) (l := sg96) ((fun _ h => nomatch h))) (loops_n 0 lk96_0 fun k hk => by omega) L96_0 (fun ρ => ((ρ.getD 0 default).int + 1).toNat) le96_0 fun ρ _ hq => ?_
  obtain ⟨c, n, g, rfl, hat, hrow, hn0, hacc⟩ : prDep ρ := hq
  have hat0 := hat
  obtain ⟨h1, h2, h3, h4⟩ := hat
  by_cases h0 : 0 ≤ c
  · have hn : c.toNat < g.C.length := by omega
    have hr : (g.C.getD c.toNat []).getD 1 default = .i (cI (el g.C c.toNat) 1) := hrow _ hn
    have hb := h4 c.toNat (by omega)
    simp (disch := omega) only [rt96_0, VT.ok, Nd.holds, X.ds, X.d, Op1.ev, Op2.ev, List.getD_cons_zero, List.getD_cons_succ, D.int_i, D.bool_b, D.lst_l, implies_true, true_and, ↓reduceIte, dle_t, dlt_t, w64', hr]
    refine round_next ⟨⟨cI (el g.C c.toNat) 1, n + 1, g, rfl, atC_up hat0 h0, hrow, by omega, by omega⟩, ?_, ?_⟩
    · show (cI (el g.C c.toNat) 1 + 1).toNat < (c + 1).toNat
      omega
    · show lpDep [.i (cI (el g.C c.toNat) 1), .i (n + 1), .s g.nm, .b g.dr, .l g.N, .l g.E, .l g.C] = lpDep [.i c, .i n, .s g.nm, .b g.dr, .l g.N, .l g.E, .l g.C]
      simp only [lpDep, depth_at h0 h4]
      rw [show n + 1 + depth g.C (cI (el g.C c.toNat) 1) = n + (depth g.C (cI (el g.C c.toNat) 1) + 1) by omega]
  · simp (disch := omega) only [rt96_0, VT.ok, X.ds, X.d, Op2.ev, List.getD_cons_zero, List.getD_cons_succ, D.int_i, D.bool_b, Bool.false_eq_true, ↓reduceIte, dle_f]
    refine round_exit (by omega) ?_
    show lpDep [.i c, .i n, .s g.nm, .b g.dr, .l g.N, .l g.E, .l g.C] = _
    have : c = -1 := by omega
    subst this
    simp only [lpDep, depth_neg (show (-1 : Int) < 0 by omega), Int.add_zero]
theorem m96 : Meets Try.prog 96 S96 (R 96) (F 96) := by
  refine meets_of_vt (pre := R) (Φ := F) mixed (sgAt_all (P := Try.prog) (pre := R) (Φ := F) (l := sg96) ((fun _ h => nomatch h))) Try.func96 b96 n96 (loops_n 1 k96 fun k hk => match k, hk with | 0, _ => loop_this lf96_0 loopM96_0) e96 fun ds hf hq => ?_
  obtain ⟨g, ds', rfl, h5, _, _, _, ⟨_, hC⟩⟩ := fitsG hf.flat
  obtain ⟨x, rfl, hx⟩ := fits1 h5
  obtain ⟨c, rfl, _⟩ := wf_i64 hx
  have hq : atC g.C c := hq
  have hpre : prDep [.i c, .i 0, .s g.nm, .b g.dr, .l g.N, .l g.E, .l g.C] := ⟨c, 0, g, rfl, hq, rowI1_of hC, by omega, by have := hq.2.1; have := hq.2.2.1; omega⟩
  simp only [vt96, VT.ok, Nd.holds, X.outs, X.ds, X.d, takeD_zero, takeD_cons, List.cons_append, List.nil_append, List.getD_cons_zero, List.getD_cons_succ, D.int_i, D.bool_b, D.lst_l, and_true, F19600, R19600, F96, lpDep, depthD, cL, cI, Int.zero_add]
  exact fun _ => hpre
theorem m54 : Meets Try.prog 54 S54 (R 54) (F 54) := by
  refine meets_of_vt (pre := R) (Φ := F) mixed (sgAt_all (P := Try.prog) (pre := R) (Φ := F) (l := sg54) (List.forall_mem_cons.2 ⟨Meets.at (pre := R) (Φ := F) m52, List.forall_mem_cons.2 ⟨Meets.at (pre := R) (Φ := F) m81, List.forall_mem_cons.2 ⟨Meets.at (pre := R) (Φ := F) m85, List.forall_mem_cons.2 ⟨Meets.at (pre := R) (Φ := F) m87, (fun _ h => nomatch h)⟩⟩⟩⟩)) Try.func54 b54 n54 (loops_n 0 k54 fun k hk => by omega) e54 fun ds hf hq => ?_
  obtain ⟨g, ds', rfl, h5, _, _, _, ⟨_, hC⟩⟩ := fitsG hf.flat
  obtain ⟨x, rfl, hx⟩ := fits1 h5
  obtain ⟨i, e, hi, h16, hok⟩ : prClu (.s g.nm :: .b g.dr :: .l g.N :: .l g.E :: .l g.C :: [x]) := hq
  have e : x = .i (i : Int) := e
  subst e
  have hi : i < g.C.length := hi
  have h16 : g.C.length ≤ 16 := h16
  have hok : okC g.C i := hok
  have hF : F 54 (.s g.nm :: .b g.dr :: .l g.N :: .l g.E :: .l g.C :: [.i (i : Int)]) = [.i (cluE g.N g.C i)] := rfl
  rw [hF]
  generalize hv : cluE g.N g.C i = res
  unfold cluE at hv
  simp (disch := omega) only [vt54, VT.ok, Nd.holds, X.outs, X.ds, X.d, Op1.ev, Op2.ev, takeD_zero, takeD_cons, List.cons_append, List.nil_append, List.getD_cons_zero, List.getD_cons_succ, D.int_i, D.bool_b, D.lst_l, ite_b, ite_or, Int.toNat_natCast, implies_true, true_and, takeD1_0, F52, R52, F81, R81, F85, R85, F87, R87, dle_t, dlt_t, nameD, findD, depthD, cS, cI, cL, Int.toNat_natCast]
  cases h1 : isName (cS (el g.C i) 0)
  · rw [h1] at hv
    simp only [Bool.not_false, if_true]
    rw [← hv]; rfl
  · simp only [h1, if_true] at hv
    simp only [Bool.not_true, Bool.false_eq_true, if_false]
    refine ⟨fun _ k _ => ⟨_, cellsN 2 _, rfl, rfl, cellsN_length 2 _⟩, ?_⟩
    show if (if decide (0 ≤ find g.N (cS (el g.C i) 0)) = true then D.b true else D.b (anyN (nmP (g.C.take i) (cS (el g.C i) 0)) (g.C.take i).length)).bool = true then _ else _
    rw [any_take (by omega)]
    simp only [ite_b, ite_or, D.bool_b]
    cases h2 : (decide (0 ≤ find g.N (cS (el g.C i) 0)) || anyN (nmP g.C (cS (el g.C i) 0)) i)
    · rw [h2] at hv
      simp only [Bool.false_eq_true, if_false] at hv ⊢
      by_cases h3 : cI (el g.C i) 1 < -1 ∨ (i : Int) ≤ cI (el g.C i) 1
      · rw [if_pos h3] at hv
        rw [if_pos (by exact dor_t h3), ← hv]
      · rw [if_neg h3] at hv
        rw [if_neg (by exact dor_f h3)]
        have hat : atC g.C i := ⟨by omega, by omega, h16, fun k hk => by
          by_cases e : k = i
          · subst e; omega
          · exact hok k (by omega)⟩
        refine ⟨fun _ => hat, ?_⟩
        by_cases h4 : 6 < depth g.C i
        · rw [if_pos h4] at hv
          rw [if_pos (by exact dec_t h4), ← hv]
        · rw [if_neg h4] at hv
          rw [if_neg (by exact dec_f h4), ← hv]
    · rw [h2] at hv
      simp only [if_true] at hv ⊢
      rw [← hv]
theorem loopM70_0 : LoopMeets Try.prog F (R L70_0.key) L70_0 lb70_0 := by
  refine loop_meets (pre := R) mixed (sgAt_all (P := Try.prog) (pre := R) (Φ := F) (l := sg70) (List.forall_mem_cons.2 ⟨Meets.at (pre := R) (Φ := F) m68, List.forall_mem_cons.2 ⟨Meets.at (pre := R) (Φ := F) m93, List.forall_mem_cons.2 ⟨Meets.at (pre := R) (Φ := F) m96, (fun _ h => nomatch h)⟩⟩⟩)) (loops_n 0 lk70_0 fun k hk => by omega) L70_0 (fun ρ => ((ρ.getD 0 default).int - (ρ.getD 2 default).int).toNat) le70_0 fun ρ _ hq => ?_
  obtain ⟨i, v, g, nm, z, j, rfl, hj, hi, hm⟩ : prCluR ρ := hq
  rw [maxLen_val] at hm
  by_cases hlt : j < i
  · simp (disch := omega) only [rt70_0, VT.ok, Nd.holds, X.ds, X.d, Op1.ev, Op2.ev, List.getD_cons_zero, List.getD_cons_succ, D.int_i, D.bool_b, D.lst_l, D.str_s, Int.toNat_natCast, implies_true, true_and, ↓reduceIte, dle_t, dlt_t, w64']
    show if nmP g.C nm j = true then _ else _
    cases hb : nmP g.C nm j
    · simp only [Bool.false_eq_true, if_false]
      refine round_next ⟨⟨i, v, g, nm, z, j + 1, rfl, by omega, hi, hm⟩, ?_, ?_⟩
      · show ((i : Int) - ((j + 1 : Nat) : Int)).toNat < ((i : Int) - (j : Int)).toNat
        omega
      · show lpCluR [.i (i : Int), v, .i ((j + 1 : Nat) : Int), .s g.nm, .b g.dr, .l g.N, .l g.E, .l g.C, .s nm, z] = lpCluR [.i (i : Int), v, .i (j : Int), .s g.nm, .b g.dr, .l g.N, .l g.E, .l g.C, .s nm, z]
        simp only [lpCluR, Int.toNat_natCast]
        exact scan_next hlt hb
    · simp only [if_true]
      refine round_exit (by omega) ?_
      show lpCluR [.i (i : Int), v, .i (j : Int), .s g.nm, .b g.dr, .l g.N, .l g.E, .l g.C, .s nm, z] = _
      simp only [lpCluR, Int.toNat_natCast]
      exact scan_hit hlt hb
  · have hj' : j = i := by omega
    subst hj'
    simp (disch := omega) only [rt70_0, VT.ok, X.ds, X.d, Op2.ev, List.getD_cons_zero, List.getD_cons_succ, D.int_i, D.bool_b, Bool.false_eq_true, ↓reduceIte, dlt_f]
    refine round_exit (by omega) ?_
    show lpCluR [.i (j : Int), v, .i (j : Int), .s g.nm, .b g.dr, .l g.N, .l g.E, .l g.C, .s nm, z] = _
    simp only [lpCluR, Int.toNat_natCast]
    exact scan_end
theorem row_s {C : List (List D)} {c : List CT} (h : ∀ x ∈ C, FitsF (.str :: c) x) {i : Nat} (hi : i < C.length) : (el C i).getD 0 default = .s (cS (el C i) 0) := by
  have hx := h (el C i) (getD_mem [] hi)
  match e : el C i, hx with
  | a :: bs, ⟨h0, _⟩ =>
    obtain ⟨s, rfl, _⟩ := wf_str h0
    rfl
theorem m70 : Meets Try.prog 70 S70 (R 70) (F 70) := by
  refine meets_of_vt (pre := R) (Φ := F) mixed (sgAt_all (P := Try.prog) (pre := R) (Φ := F) (l := sg70) (List.forall_mem_cons.2 ⟨Meets.at (pre := R) (Φ := F) m68, List.forall_mem_cons.2 ⟨Meets.at (pre := R) (Φ := F) m93, List.forall_mem_cons.2 ⟨Meets.at (pre := R) (Φ := F) m96, (fun _ h => nomatch h)⟩⟩⟩)) Try.func70 b70 n70 (loops_n 1 k70 fun k hk => match k, hk with | 0, _ => loop_this lf70_0 loopM70_0) e70 fun ds hf hq => ?_
  obtain ⟨g, ds', rfl, h5, _, _, _, ⟨hmC, hC⟩⟩ := fitsG hf.flat
  obtain ⟨x, rfl, hx⟩ := fits1 h5
  obtain ⟨i, e, hi, h16, hok⟩ : prClu (.s g.nm :: .b g.dr :: .l g.N :: .l g.E :: .l g.C :: [x]) := hq
  have e : x = .i (i : Int) := e
  subst e
  have hi : i < g.C.length := hi
  have h16 : g.C.length ≤ 16 := h16
  have hok : okC g.C i := hok
  have hF : F 70 (.s g.nm :: .b g.dr :: .l g.N :: .l g.E :: .l g.C :: [.i (i : Int)]) = [.i (cluE g.N g.C i)] := rfl
  rw [hF]
  generalize hv : cluE g.N g.C i = res
  unfold cluE at hv
  have hnm : (g.C.getD i []).getD 0 default = .s (cS (el g.C i) 0) := row_s hC hi
  have hpre : prCluR [.i (i : Int), .i 0, .i 0, .s g.nm, .b g.dr, .l g.N, .l g.E, .l g.C, .s (cS (el g.C i) 0), (g.C.getD i []).getD 1 default] := ⟨i, _, g, _, _, 0, rfl, by omega, hi, hmC⟩
  simp (disch := omega) only [vt70, VT.ok, Nd.holds, X.outs, X.ds, X.d, Op1.ev, Op2.ev, takeD_zero, takeD_cons, List.cons_append, List.nil_append, List.getD_cons_zero, List.getD_cons_succ, D.int_i, D.bool_b, D.lst_l, ite_b, ite_or, Int.toNat_natCast, implies_true, true_and, F68, R68, F93, R93, F96, R96, F17000, R17000, dle_t, dlt_t, nameD, findD, depthD, cI, cL, Int.toNat_natCast, hnm, lpCluR, Int.toNat_zero, Nat.sub_zero]
  cases h1 : isName (cS (el g.C i) 0)
  · rw [h1] at hv
    simp only [h1, cS, List.getD_cons_zero, D.str_s, Bool.not_false, if_true]
    rw [← hv]; rfl
  · simp only [h1, if_true] at hv
    rw [if_neg (by
      show ¬ (!isName (cS (el g.C i) 0)) = true
      rw [h1]; decide)]
    refine ⟨fun _ => hpre, ?_⟩
    rcases scan_two (p := nmP g.C (cS (el g.C i) 0)) i with ⟨h2, k, _, _, _, h⟩ | ⟨h2, h⟩
    · rw [h2, Bool.or_true, if_pos rfl] at hv
      simp only [h, takeD_zero, takeD_cons, List.getD_cons_zero, List.getD_cons_succ, D.int_i, ↓reduceIte, beq_t]
      rw [← hv]
    · rw [h2, Bool.or_false] at hv
      simp (disch := omega) only [h, takeD_zero, takeD_cons, List.cons_append, List.nil_append, List.getD_cons_zero, List.getD_cons_succ, D.int_i, Bool.false_eq_true, ↓reduceIte, beq_f]
      by_cases h4 : 0 ≤ find g.N (cS (el g.C i) 0)
      · rw [if_pos (dec_t h4)] at hv
        rw [if_pos (by exact dec_t h4), ← hv]
      · rw [if_neg (dec_f h4)] at hv
        rw [if_neg (by exact dec_f h4)]
        by_cases h3 : cI (el g.C i) 1 < -1 ∨ (i : Int) ≤ cI (el g.C i) 1
        · rw [if_pos h3] at hv
          rw [if_pos (by exact dor_t h3), ← hv]
        · rw [if_neg h3] at hv
          rw [if_neg (by exact dor_f h3)]
          have hat : atC g.C i := ⟨by omega, by omega, h16, fun k hk => by
            by_cases e : k = i
            · subst e; omega
            · exact hok k (by omega)⟩
          refine ⟨fun _ => hat, ?_⟩
          by_cases h4 : 6 < depth g.C i
          · rw [if_pos h4] at hv
            rw [if_pos (by exact dec_t h4), ← hv]
          · rw [if_neg h4] at hv
            rw [if_neg (by exact dec_f h4), ← hv]
theorem fitsE {ds : List D} (h : FitsF [.int .i64, .int .i64, .int .i64, .int .i64, .str, .int .i64, .int .i64] ds) : ∃ (a b c d : Int) (s : ByteArray) (w l : Int), ds = [.i a, .i b, .i c, .i d, .s s, .i w, .i l] ∧ s.size ≤ maxLen := by
  match ds, h with
  | [d0, d1, d2, d3, d4, d5, d6], ⟨h0, h1, h2, h3, h4, h5, h6, _⟩ =>
    obtain ⟨a, rfl, _⟩ := wf_i64 h0
    obtain ⟨b, rfl, _⟩ := wf_i64 h1
    obtain ⟨c, rfl, _⟩ := wf_i64 h2
    obtain ⟨d, rfl, _⟩ := wf_i64 h3
    obtain ⟨s, rfl, hs⟩ := wf_str h4
    obtain ⟨w, rfl, _⟩ := wf_i64 h5
    obtain ⟨l, rfl, _⟩ := wf_i64 h6
    exact ⟨a, b, c, d, s, w, l, rfl, hs⟩
theorem m55 : Meets Try.prog 55 S55 (R 55) (F 55) := by
  refine meets_of_vt (pre := R) (Φ := F) mixed (sgAt_all (P := Try.prog) (pre := R) (Φ := F) (l := sg55) (List.forall_mem_cons.2 ⟨Meets.at (pre := R) (Φ := F) m82, (fun _ h => nomatch h)⟩)) Try.func55 b55 n55 (loops_n 0 k55 fun k hk => by omega) e55 fun ds hf hq => ?_
  obtain ⟨g, ds', rfl, h5, _⟩ := fitsG hf.flat
  obtain ⟨a, b, c, d, s, w, l, rfl, _⟩ := fitsE h5
  have hF : F 55 (.s g.nm :: .b g.dr :: .l g.N :: .l g.E :: .l g.C :: [.i a, .i b, .i c, .i d, .s s, .i w, .i l]) = [.i (edgeE g.N [.i a, .i b, .i c, .i d, .s s, .i w, .i l])] := rfl
  rw [hF]
  generalize hv : edgeE g.N [.i a, .i b, .i c, .i d, .s s, .i w, .i l] = res
  simp only [edgeE, cI, cS, cL, List.getD_cons_zero, List.getD_cons_succ, D.int_i, D.str_s] at hv
  generalize hA : (((el g.N a.toNat).getD 5 default).lst.length : Int) = A at hv
  generalize hB : (((el g.N b.toNat).getD 5 default).lst.length : Int) = B at hv
  have hA' : (((g.N.getD a.toNat []).getD 5 default).lst.length : Int) = A := hA
  have hB' : (((g.N.getD b.toNat []).getD 5 default).lst.length : Int) = B := hB
  by_cases h1 : 0 ≤ a ∧ a < g.N.length ∧ 0 ≤ b ∧ b < g.N.length ∧ -1 ≤ c ∧ c < A ∧ -1 ≤ d ∧ d < B
  · rw [if_pos h1] at hv
    simp (disch := omega) only [vt55, VT.ok, Nd.holds, X.outs, X.ds, X.d, Op1.ev, Op2.ev, takeD_zero, takeD_cons, List.cons_append, List.nil_append, List.getD_cons_zero, List.getD_cons_succ, D.int_i, D.bool_b, D.lst_l, D.str_s, ite_b, ite_or, imin, imax, Bool.false_eq_true, implies_true, true_and, F82, R82, ↓reduceIte, dle_t, dle_f, dlt_t, dlt_f, hA', hB', labelD, cS, Bool.not_false]
    by_cases h2 : labelE s = 0
    · rw [if_pos h2] at hv
      rw [if_neg (by exact bne_f h2)]
      by_cases h3 : 1 ≤ w ∧ w ≤ 1000 ∧ 1 ≤ l ∧ l ≤ 64
      · rw [if_pos h3] at hv
        simp (disch := omega) only [↓reduceIte, dlt_f, Bool.or_self, Bool.false_eq_true]
        rw [← hv]
      · rw [if_neg h3] at hv
        rw [if_pos (by
          simp only [Bool.or_eq_true, decide_eq_true_eq]
          omega), ← hv]
    · rw [if_neg h2] at hv
      rw [if_pos (by exact bne_t h2), ← hv]
  · rw [if_neg h1] at hv
    have hc : ((((decide (min a b < 0) || decide ((g.N.length : Int) ≤ max a b)) || decide (min c d < -1)) || decide (A ≤ c)) || decide (B ≤ d)) = true := by
      simp only [Bool.or_eq_true, decide_eq_true_eq]
      omega
    simp only [vt55, VT.ok, Nd.holds, X.outs, X.ds, X.d, Op1.ev, Op2.ev, List.cons_append, List.nil_append, List.getD_cons_zero, List.getD_cons_succ, D.int_i, D.bool_b, D.lst_l, ite_b, ite_or, imin, imax, if_true, implies_true, true_and, takeD1_0, F82, R82, hA', hB', hc]
    simp only [Bool.not_eq_true', Bool.or_eq_false_iff, decide_eq_false_iff_not, decide_eq_true_eq]
    exact ⟨fun h => by omega, fun h => by omega, fun h => by omega, fun h => by omega, by rw [hv]⟩
theorem m71 : Meets Try.prog 71 S71 (R 71) (F 71) := by
  refine meets_of_vt (pre := R) (Φ := F) mixed (sgAt_all (P := Try.prog) (pre := R) (Φ := F) (l := sg71) (List.forall_mem_cons.2 ⟨Meets.at (pre := R) (Φ := F) m94, (fun _ h => nomatch h)⟩)) Try.func71 b71 n71 (loops_n 0 k71 fun k hk => by omega) e71 fun ds hf hq => ?_
  obtain ⟨g, ds', rfl, h5, _⟩ := fitsG hf.flat
  obtain ⟨a, b, c, d, s, w, l, rfl, _⟩ := fitsE h5
  have hF : F 71 (.s g.nm :: .b g.dr :: .l g.N :: .l g.E :: .l g.C :: [.i a, .i b, .i c, .i d, .s s, .i w, .i l]) = [.i (edgeE g.N [.i a, .i b, .i c, .i d, .s s, .i w, .i l])] := rfl
  rw [hF]
  generalize hv : edgeE g.N [.i a, .i b, .i c, .i d, .s s, .i w, .i l] = res
  simp only [edgeE, cI, cS, cL, List.getD_cons_zero, List.getD_cons_succ, D.int_i, D.str_s] at hv
  generalize hA : (((el g.N a.toNat).getD 5 default).lst.length : Int) = A at hv
  generalize hB : (((el g.N b.toNat).getD 5 default).lst.length : Int) = B at hv
  have hA' : (((g.N.getD a.toNat []).getD 5 default).lst.length : Int) = A := hA
  have hB' : (((g.N.getD b.toNat []).getD 5 default).lst.length : Int) = B := hB
  by_cases h0 : 0 ≤ a ∧ a < g.N.length ∧ 0 ≤ b ∧ b < g.N.length
  · by_cases h1 : -1 ≤ c ∧ c < A ∧ -1 ≤ d ∧ d < B
    · rw [if_pos ⟨h0.1, h0.2.1, h0.2.2.1, h0.2.2.2, h1⟩] at hv
      simp (disch := omega) only [vt71, VT.ok, Nd.holds, X.outs, X.ds, X.d, Op1.ev, Op2.ev, takeD_zero, takeD_cons, List.cons_append, List.nil_append, List.getD_cons_zero, List.getD_cons_succ, D.int_i, D.bool_b, D.lst_l, D.str_s, ite_b, ite_or, Bool.false_eq_true, implies_true, true_and, F94, R94, ↓reduceIte, dle_t, dle_f, dlt_t, dlt_f, hA', hB', plainD, cS, Bool.not_false]
      by_cases h4 : 32 < (s.size : Int)
      · have h3 : labelE s = 2 := by rw [labelE, if_pos h4]
        rw [h3, if_neg (by decide)] at hv
        rw [if_pos (by exact dec_t h4), ← hv]
      · rw [if_neg (by exact dec_f h4)]
        cases h6 : plainB s
        · have h3 : labelE s = 7 := by rw [labelE, if_neg h4, h6]; rfl
          rw [h3, if_neg (by decide)] at hv
          simp only [Bool.not_false, Bool.true_or, if_true]
          rw [← hv]
        · have h3 : labelE s = 0 := by rw [labelE, if_neg h4, h6]; rfl
          rw [h3, if_pos rfl] at hv
          simp only [Bool.not_true, Bool.false_or]
          by_cases h3 : 1 ≤ w ∧ w ≤ 1000 ∧ 1 ≤ l ∧ l ≤ 64
          · rw [if_pos h3] at hv
            simp (disch := omega) only [↓reduceIte, dlt_f, Bool.or_self, Bool.false_eq_true]
            rw [← hv]
          · rw [if_neg h3] at hv
            rw [if_pos (by
              simp only [Bool.or_eq_true, decide_eq_true_eq]
              omega), ← hv]
    · rw [if_neg (by omega)] at hv
      have hc : (((decide (c < -1) || decide (A ≤ c)) || decide (d < -1)) || decide (B ≤ d)) = true := by
        simp only [Bool.or_eq_true, decide_eq_true_eq]
        omega
      simp (disch := omega) only [vt71, VT.ok, Nd.holds, X.ds, X.d, Op1.ev, Op2.ev, List.getD_cons_zero, List.getD_cons_succ, D.int_i, D.bool_b, D.lst_l, ite_b, ite_or, Bool.false_eq_true, implies_true, true_and, ↓reduceIte, dle_t, dle_f, dlt_t, dlt_f, hA', hB', hc]
      rw [hv]
  · rw [if_neg (by omega)] at hv
    have hc : (((decide (a < 0) || decide ((g.N.length : Int) ≤ a)) || decide (b < 0)) || decide ((g.N.length : Int) ≤ b)) = true := by
      simp only [Bool.or_eq_true, decide_eq_true_eq]
      omega
    simp only [vt71, VT.ok, Nd.holds, X.outs, X.ds, X.d, Op1.ev, Op2.ev, List.cons_append, List.nil_append, List.getD_cons_zero, List.getD_cons_succ, D.int_i, D.bool_b, D.lst_l, D.str_s, ite_b, ite_or, if_true, implies_true, true_and, takeD1_0, F94, R94, hc]
    rw [hv]
end Go.Proofs.Ytindllmeeckfcaa.rv
namespace Go.Proofs.Ytindllmeeckfcaa.rv
set_option maxRecDepth 10000
open Go.RV
theorem edgeD7 (a b : D) (N : List (List D)) (c d : D) (x : List D) : edgeD [a, b, .l N, c, d, x.getD 0 default, x.getD 1 default, x.getD 2 default, x.getD 3 default, x.getD 4 default, x.getD 5 default, x.getD 6 default] = [.i (edgeE N x)] := rfl
theorem loopM26_0 : LoopMeets Try.prog F (R L26_0.key) L26_0 lb26_0 := by
  refine loop_meets (pre := R) mixed (sgAt_all (P := Try.prog) (pre := R) (Φ := F) (l := sg26) (List.forall_mem_cons.2 ⟨Meets.at (pre := R) (Φ := F) m52, List.forall_mem_cons.2 ⟨Meets.at (pre := R) (Φ := F) m53, List.forall_mem_cons.2 ⟨Meets.at (pre := R) (Φ := F) m54, List.forall_mem_cons.2 ⟨Meets.at (pre := R) (Φ := F) m55, (fun _ h => nomatch h)⟩⟩⟩⟩)) (loops_n 0 lk26_0 fun k hk => by omega) L26_0 (fun ρ => ((ρ.getD 1 default).int - (ρ.getD 2 default).int).toNat) le26_0 fun ρ _ hq => ?_
  obtain ⟨v, g, j, rfl, hj, hm⟩ : prV0 ρ := hq
  rw [maxLen_val] at hm
  by_cases hlt : j < g.N.length
  · have hN : nodeE g.N g.C j = 0 → RoundOk F (R L26_0.key) (fun ρ => ((ρ.getD 1 default).int - (ρ.getD 2 default).int).toNat) L26_0 [v, .i (g.N.length : Int), .i (j : Int), .s g.nm, .b g.dr, .l g.N, .l g.E, .l g.C] [.i (-1), v, .i ((j + 1 : Nat) : Int)] := fun h0 => by
      refine round_next ⟨⟨v, g, j + 1, rfl, by omega, hm⟩, ?_, ?_⟩
      · show ((g.N.length : Int) - ((j + 1 : Nat) : Int)).toNat < ((g.N.length : Int) - (j : Int)).toNat
        omega
      · show lpV0 [v, .i (g.N.length : Int), .i ((j + 1 : Nat) : Int), .s g.nm, .b g.dr, .l g.N, .l g.E, .l g.C] = lpV0 [v, .i (g.N.length : Int), .i (j : Int), .s g.nm, .b g.dr, .l g.N, .l g.E, .l g.C]
        simp only [lpV0, errLp, Int.toNat_natCast]
        exact scan_next hlt (by simp only [er, h0]; rfl)
    have hX : ∀ z : Int, nodeE g.N g.C j = z → z ≠ 0 → RoundOk F (R L26_0.key) (fun ρ => ((ρ.getD 1 default).int - (ρ.getD 2 default).int).toNat) L26_0 [v, .i (g.N.length : Int), .i (j : Int), .s g.nm, .b g.dr, .l g.N, .l g.E, .l g.C] [.i 0, .i z, .i (j : Int)] := fun z h0 hz => by
      refine round_exit (by omega) ?_
      show lpV0 [v, .i (g.N.length : Int), .i (j : Int), .s g.nm, .b g.dr, .l g.N, .l g.E, .l g.C] = _
      simp only [lpV0, errLp, Int.toNat_natCast]
      rw [← h0]
      exact scan_hit hlt (by simp only [er, h0]; simpa using hz)
    have hpre : prNode [.s g.nm, .b g.dr, .l g.N, .l g.E, .l g.C, .i (j : Int)] := ⟨j, rfl, hlt⟩
    simp (disch := omega) only [rt26_0, VT.ok, Nd.holds, X.outs, X.ds, X.d, Op1.ev, Op2.ev, takeD_zero, takeD_cons, List.cons_append, List.nil_append, List.getD_cons_zero, List.getD_cons_succ, D.int_i, D.bool_b, D.lst_l, Int.toNat_natCast, F53, R53, ↓reduceIte, dlt_t, w64', nodeD, cL, cI, Int.toNat_natCast]
    refine ⟨fun _ => hpre, ?_⟩
    by_cases h : nodeE g.N g.C j = 0
    · rw [if_neg (by exact bne_f h)]
      exact hN h
    · rw [if_pos (by exact bne_t h)]
      exact hX _ rfl h
  · have hj' : j = g.N.length := by omega
    subst hj'
    simp (disch := omega) only [rt26_0, VT.ok, X.ds, X.d, Op2.ev, List.getD_cons_zero, List.getD_cons_succ, D.int_i, D.bool_b, Bool.false_eq_true, ↓reduceIte, dlt_f]
    refine round_exit (by omega) ?_
    show lpV0 [v, .i (g.N.length : Int), .i (g.N.length : Int), .s g.nm, .b g.dr, .l g.N, .l g.E, .l g.C] = _
    simp only [lpV0, errLp, Int.toNat_natCast]
    exact scan_end
theorem loopM42_0 : LoopMeets Try.prog F (R L42_0.key) L42_0 lb42_0 := by
  refine loop_meets (pre := R) mixed (sgAt_all (P := Try.prog) (pre := R) (Φ := F) (l := sg42) (List.forall_mem_cons.2 ⟨Meets.at (pre := R) (Φ := F) m68, List.forall_mem_cons.2 ⟨Meets.at (pre := R) (Φ := F) m69, List.forall_mem_cons.2 ⟨Meets.at (pre := R) (Φ := F) m70, List.forall_mem_cons.2 ⟨Meets.at (pre := R) (Φ := F) m71, (fun _ h => nomatch h)⟩⟩⟩⟩)) (loops_n 0 lk42_0 fun k hk => by omega) L42_0 (fun ρ => (((ρ.getD 4 default).lst.length : Int) - (ρ.getD 1 default).int).toNat) le42_0 fun ρ _ hq => ?_
  obtain ⟨v, g, j, rfl, hj, hm⟩ : prW0 ρ := hq
  rw [maxLen_val] at hm
  by_cases hlt : j < g.N.length
  · have hN : nodeE g.N g.C j = 0 → RoundOk F (R L42_0.key) (fun ρ => (((ρ.getD 4 default).lst.length : Int) - (ρ.getD 1 default).int).toNat) L42_0 [v, .i (j : Int), .s g.nm, .b g.dr, .l g.N, .l g.E, .l g.C] [.i (-1), v, .i ((j + 1 : Nat) : Int)] := fun h0 => by
      refine round_next ⟨⟨v, g, j + 1, rfl, by omega, hm⟩, ?_, ?_⟩
      · show ((g.N.length : Int) - ((j + 1 : Nat) : Int)).toNat < ((g.N.length : Int) - (j : Int)).toNat
        omega
      · show lpW0 [v, .i ((j + 1 : Nat) : Int), .s g.nm, .b g.dr, .l g.N, .l g.E, .l g.C] = lpW0 [v, .i (j : Int), .s g.nm, .b g.dr, .l g.N, .l g.E, .l g.C]
        simp only [lpW0, errLp, Int.toNat_natCast]
        exact scan_next hlt (by simp only [er, h0]; rfl)
    have hX : ∀ z : Int, nodeE g.N g.C j = z → z ≠ 0 → RoundOk F (R L42_0.key) (fun ρ => (((ρ.getD 4 default).lst.length : Int) - (ρ.getD 1 default).int).toNat) L42_0 [v, .i (j : Int), .s g.nm, .b g.dr, .l g.N, .l g.E, .l g.C] [.i 0, .i z, .i (j : Int)] := fun z h0 hz => by
      refine round_exit (by omega) ?_
      show lpW0 [v, .i (j : Int), .s g.nm, .b g.dr, .l g.N, .l g.E, .l g.C] = _
      simp only [lpW0, errLp, Int.toNat_natCast]
      rw [← h0]
      exact scan_hit hlt (by simp only [er, h0]; simpa using hz)
    have hpre : prNode [.s g.nm, .b g.dr, .l g.N, .l g.E, .l g.C, .i (j : Int)] := ⟨j, rfl, hlt⟩
    simp (disch := omega) only [rt42_0, VT.ok, Nd.holds, X.outs, X.ds, X.d, Op1.ev, Op2.ev, takeD_zero, takeD_cons, List.cons_append, List.nil_append, List.getD_cons_zero, List.getD_cons_succ, D.int_i, D.bool_b, D.lst_l, Int.toNat_natCast, F69, R69, ↓reduceIte, dlt_t, w64', nodeD, cL, cI, Int.toNat_natCast]
    refine ⟨fun _ => hpre, ?_⟩
    by_cases h : nodeE g.N g.C j = 0
    · rw [if_neg (by exact bne_f h)]
      exact hN h
    · rw [if_pos (by exact bne_t h)]
      exact hX _ rfl h
  · have hj' : j = g.N.length := by omega
    subst hj'
    simp (disch := omega) only [rt42_0, VT.ok, X.ds, X.d, Op1.ev, Op2.ev, List.getD_cons_zero, List.getD_cons_succ, D.int_i, D.bool_b, D.lst_l, Bool.false_eq_true, ↓reduceIte, dlt_f]
    refine round_exit (by omega) ?_
    show lpW0 [v, .i (g.N.length : Int), .s g.nm, .b g.dr, .l g.N, .l g.E, .l g.C] = _
    simp only [lpW0, errLp, Int.toNat_natCast]
    exact scan_end
theorem loopM26_1 : LoopMeets Try.prog F (R L26_1.key) L26_1 lb26_1 := by
  refine loop_meets (pre := R) mixed (sgAt_all (P := Try.prog) (pre := R) (Φ := F) (l := sg26) (List.forall_mem_cons.2 ⟨Meets.at (pre := R) (Φ := F) m52, List.forall_mem_cons.2 ⟨Meets.at (pre := R) (Φ := F) m53, List.forall_mem_cons.2 ⟨Meets.at (pre := R) (Φ := F) m54, List.forall_mem_cons.2 ⟨Meets.at (pre := R) (Φ := F) m55, (fun _ h => nomatch h)⟩⟩⟩⟩)) (loops_n 0 lk26_1 fun k hk => by omega) L26_1 (fun ρ => ((ρ.getD 1 default).int - (ρ.getD 2 default).int).toNat) le26_1 fun ρ _ hq => ?_
  obtain ⟨v, g, j, rfl, hj, h16, hk⟩ : prV1 ρ := hq
  by_cases hlt : j < g.C.length
  · have hN : cluE g.N g.C j = 0 → RoundOk F (R L26_1.key) (fun ρ => ((ρ.getD 1 default).int - (ρ.getD 2 default).int).toNat) L26_1 [v, .i (g.C.length : Int), .i (j : Int), .s g.nm, .b g.dr, .l g.N, .l g.E, .l g.C] [.i (-1), v, .i ((j + 1 : Nat) : Int)] := fun h0 => by
      refine round_next ⟨⟨v, g, j + 1, rfl, by omega, h16, by intro k hk'; rcases Nat.lt_or_ge k j with e | e; exact hk k e; rw [show k = j by omega]; exact h0⟩, ?_, ?_⟩
      · show ((g.C.length : Int) - ((j + 1 : Nat) : Int)).toNat < ((g.C.length : Int) - (j : Int)).toNat
        omega
      · show lpV1 [v, .i (g.C.length : Int), .i ((j + 1 : Nat) : Int), .s g.nm, .b g.dr, .l g.N, .l g.E, .l g.C] = lpV1 [v, .i (g.C.length : Int), .i (j : Int), .s g.nm, .b g.dr, .l g.N, .l g.E, .l g.C]
        simp only [lpV1, errLp, Int.toNat_natCast]
        exact scan_next hlt (by simp only [er, h0]; rfl)
    have hX : ∀ z : Int, cluE g.N g.C j = z → z ≠ 0 → RoundOk F (R L26_1.key) (fun ρ => ((ρ.getD 1 default).int - (ρ.getD 2 default).int).toNat) L26_1 [v, .i (g.C.length : Int), .i (j : Int), .s g.nm, .b g.dr, .l g.N, .l g.E, .l g.C] [.i 0, .i z, .i (j : Int)] := fun z h0 hz => by
      refine round_exit (by omega) ?_
      show lpV1 [v, .i (g.C.length : Int), .i (j : Int), .s g.nm, .b g.dr, .l g.N, .l g.E, .l g.C] = _
      simp only [lpV1, errLp, Int.toNat_natCast]
      rw [← h0]
      exact scan_hit hlt (by simp only [er, h0]; simpa using hz)
    have hpre : prClu [.s g.nm, .b g.dr, .l g.N, .l g.E, .l g.C, .i (j : Int)] := ⟨j, rfl, hlt, h16, okC_of hk⟩
    simp (disch := omega) only [rt26_1, VT.ok, Nd.holds, X.outs, X.ds, X.d, Op1.ev, Op2.ev, takeD_zero, takeD_cons, List.cons_append, List.nil_append, List.getD_cons_zero, List.getD_cons_succ, D.int_i, D.bool_b, D.lst_l, Int.toNat_natCast, F54, R54, ↓reduceIte, dlt_t, w64', cluD, cL, cI, Int.toNat_natCast]
    refine ⟨fun _ => hpre, ?_⟩
    by_cases h : cluE g.N g.C j = 0
    · rw [if_neg (by exact bne_f h)]
      exact hN h
    · rw [if_pos (by exact bne_t h)]
      exact hX _ rfl h
  · have hj' : j = g.C.length := by omega
    subst hj'
    simp (disch := omega) only [rt26_1, VT.ok, X.ds, X.d, Op2.ev, List.getD_cons_zero, List.getD_cons_succ, D.int_i, D.bool_b, Bool.false_eq_true, ↓reduceIte, dlt_f]
    refine round_exit (by omega) ?_
    show lpV1 [v, .i (g.C.length : Int), .i (g.C.length : Int), .s g.nm, .b g.dr, .l g.N, .l g.E, .l g.C] = _
    simp only [lpV1, errLp, Int.toNat_natCast]
    exact scan_end
theorem loopM42_1 : LoopMeets Try.prog F (R L42_1.key) L42_1 lb42_1 := by
  refine loop_meets (pre := R) mixed (sgAt_all (P := Try.prog) (pre := R) (Φ := F) (l := sg42) (List.forall_mem_cons.2 ⟨Meets.at (pre := R) (Φ := F) m68, List.forall_mem_cons.2 ⟨Meets.at (pre := R) (Φ := F) m69, List.forall_mem_cons.2 ⟨Meets.at (pre := R) (Φ := F) m70, List.forall_mem_cons.2 ⟨Meets.at (pre := R) (Φ := F) m71, (fun _ h => nomatch h)⟩⟩⟩⟩)) (loops_n 0 lk42_1 fun k hk => by omega) L42_1 (fun ρ => (((ρ.getD 6 default).lst.length : Int) - (ρ.getD 1 default).int).toNat) le42_1 fun ρ _ hq => ?_
  obtain ⟨v, g, j, rfl, hj, h16, hk⟩ : prW1 ρ := hq
  by_cases hlt : j < g.C.length
  · have hN : cluE g.N g.C j = 0 → RoundOk F (R L42_1.key) (fun ρ => (((ρ.getD 6 default).lst.length : Int) - (ρ.getD 1 default).int).toNat) L42_1 [v, .i (j : Int), .s g.nm, .b g.dr, .l g.N, .l g.E, .l g.C] [.i (-1), v, .i ((j + 1 : Nat) : Int)] := fun h0 => by
      refine round_next ⟨⟨v, g, j + 1, rfl, by omega, h16, by intro k hk'; rcases Nat.lt_or_ge k j with e | e; exact hk k e; rw [show k = j by omega]; exact h0⟩, ?_, ?_⟩
      · show ((g.C.length : Int) - ((j + 1 : Nat) : Int)).toNat < ((g.C.length : Int) - (j : Int)).toNat
        omega
      · show lpW1 [v, .i ((j + 1 : Nat) : Int), .s g.nm, .b g.dr, .l g.N, .l g.E, .l g.C] = lpW1 [v, .i (j : Int), .s g.nm, .b g.dr, .l g.N, .l g.E, .l g.C]
        simp only [lpW1, errLp, Int.toNat_natCast]
        exact scan_next hlt (by simp only [er, h0]; rfl)
    have hX : ∀ z : Int, cluE g.N g.C j = z → z ≠ 0 → RoundOk F (R L42_1.key) (fun ρ => (((ρ.getD 6 default).lst.length : Int) - (ρ.getD 1 default).int).toNat) L42_1 [v, .i (j : Int), .s g.nm, .b g.dr, .l g.N, .l g.E, .l g.C] [.i 0, .i z, .i (j : Int)] := fun z h0 hz => by
      refine round_exit (by omega) ?_
      show lpW1 [v, .i (j : Int), .s g.nm, .b g.dr, .l g.N, .l g.E, .l g.C] = _
      simp only [lpW1, errLp, Int.toNat_natCast]
      rw [← h0]
      exact scan_hit hlt (by simp only [er, h0]; simpa using hz)
    have hpre : prClu [.s g.nm, .b g.dr, .l g.N, .l g.E, .l g.C, .i (j : Int)] := ⟨j, rfl, hlt, h16, okC_of hk⟩
    simp (disch := omega) only [rt42_1, VT.ok, Nd.holds, X.outs, X.ds, X.d, Op1.ev, Op2.ev, takeD_zero, takeD_cons, List.cons_append, List.nil_append, List.getD_cons_zero, List.getD_cons_succ, D.int_i, D.bool_b, D.lst_l, Int.toNat_natCast, F70, R70, ↓reduceIte, dlt_t, w64', cluD, cL, cI, Int.toNat_natCast]
    refine ⟨fun _ => hpre, ?_⟩
    by_cases h : cluE g.N g.C j = 0
    · rw [if_neg (by exact bne_f h)]
      exact hN h
    · rw [if_pos (by exact bne_t h)]
      exact hX _ rfl h
  · have hj' : j = g.C.length := by omega
    subst hj'
    simp (disch := omega) only [rt42_1, VT.ok, X.ds, X.d, Op1.ev, Op2.ev, List.getD_cons_zero, List.getD_cons_succ, D.int_i, D.bool_b, D.lst_l, Bool.false_eq_true, ↓reduceIte, dlt_f]
    refine round_exit (by omega) ?_
    show lpW1 [v, .i (g.C.length : Int), .s g.nm, .b g.dr, .l g.N, .l g.E, .l g.C] = _
    simp only [lpW1, errLp, Int.toNat_natCast]
    exact scan_end
theorem loopM26_2 : LoopMeets Try.prog F (R L26_2.key) L26_2 lb26_2 := by
  refine loop_meets (pre := R) mixed (sgAt_all (P := Try.prog) (pre := R) (Φ := F) (l := sg26) (List.forall_mem_cons.2 ⟨Meets.at (pre := R) (Φ := F) m52, List.forall_mem_cons.2 ⟨Meets.at (pre := R) (Φ := F) m53, List.forall_mem_cons.2 ⟨Meets.at (pre := R) (Φ := F) m54, List.forall_mem_cons.2 ⟨Meets.at (pre := R) (Φ := F) m55, (fun _ h => nomatch h)⟩⟩⟩⟩)) (loops_n 0 lk26_2 fun k hk => by omega) L26_2 (fun ρ => ((ρ.getD 2 default).int - (ρ.getD 3 default).int).toNat) le26_2 fun ρ _ hq => ?_
  obtain ⟨v, g, j, rfl, hj, hm⟩ : prV2 ρ := hq
  rw [maxLen_val] at hm
  by_cases hlt : j < g.E.length
  · have hN : edgeE g.N (el g.E j) = 0 → RoundOk F (R L26_2.key) (fun ρ => ((ρ.getD 2 default).int - (ρ.getD 3 default).int).toNat) L26_2 [v, .l g.E, .i (g.E.length : Int), .i (j : Int), .s g.nm, .b g.dr, .l g.N, .l g.E, .l g.C] [.i (-1), v, .i ((j + 1 : Nat) : Int)] := fun h0 => by
      refine round_next ⟨⟨v, g, j + 1, rfl, by omega, hm⟩, ?_, ?_⟩
      · show ((g.E.length : Int) - ((j + 1 : Nat) : Int)).toNat < ((g.E.length : Int) - (j : Int)).toNat
        omega
      · show lpV2 [v, .l g.E, .i (g.E.length : Int), .i ((j + 1 : Nat) : Int), .s g.nm, .b g.dr, .l g.N, .l g.E, .l g.C] = lpV2 [v, .l g.E, .i (g.E.length : Int), .i (j : Int), .s g.nm, .b g.dr, .l g.N, .l g.E, .l g.C]
        simp only [lpV2, errLp, Int.toNat_natCast]
        exact scan_next hlt (by simp only [er, h0]; rfl)
    have hX : ∀ z : Int, edgeE g.N (el g.E j) = z → z ≠ 0 → RoundOk F (R L26_2.key) (fun ρ => ((ρ.getD 2 default).int - (ρ.getD 3 default).int).toNat) L26_2 [v, .l g.E, .i (g.E.length : Int), .i (j : Int), .s g.nm, .b g.dr, .l g.N, .l g.E, .l g.C] [.i 0, .i z, .i (j : Int)] := fun z h0 hz => by
      refine round_exit (by omega) ?_
      show lpV2 [v, .l g.E, .i (g.E.length : Int), .i (j : Int), .s g.nm, .b g.dr, .l g.N, .l g.E, .l g.C] = _
      simp only [lpV2, errLp, Int.toNat_natCast]
      rw [← h0]
      exact scan_hit hlt (by simp only [er, h0]; simpa using hz)
    simp (disch := omega) only [rt26_2, VT.ok, Nd.holds, X.outs, X.ds, X.d, Op1.ev, Op2.ev, takeD_zero, takeD_cons, List.cons_append, List.nil_append, List.getD_cons_zero, List.getD_cons_succ, D.int_i, D.bool_b, D.lst_l, Int.toNat_natCast, implies_true, true_and, F55, R55, ↓reduceIte, dle_t, dlt_t, w64', edgeD7, Int.toNat_natCast]
    by_cases h : edgeE g.N (el g.E j) = 0
    · rw [if_neg (by exact bne_f h)]
      exact hN h
    · rw [if_pos (by exact bne_t h)]
      exact hX _ rfl h
  · have hj' : j = g.E.length := by omega
    subst hj'
    simp (disch := omega) only [rt26_2, VT.ok, X.ds, X.d, Op2.ev, List.getD_cons_zero, List.getD_cons_succ, D.int_i, D.bool_b, Bool.false_eq_true, ↓reduceIte, dlt_f]
    refine round_exit (by omega) ?_
    show lpV2 [v, .l g.E, .i (g.E.length : Int), .i (g.E.length : Int), .s g.nm, .b g.dr, .l g.N, .l g.E, .l g.C] = _
    simp only [lpV2, errLp, Int.toNat_natCast]
    exact scan_end
theorem loopM42_2 : LoopMeets Try.prog F (R L42_2.key) L42_2 lb42_2 := by
  refine loop_meets (pre := R) mixed (sgAt_all (P := Try.prog) (pre := R) (Φ := F) (l := sg42) (List.forall_mem_cons.2 ⟨Meets.at (pre := R) (Φ := F) m68, List.forall_mem_cons.2 ⟨Meets.at (pre := R) (Φ := F) m69, List.forall_mem_cons.2 ⟨Meets.at (pre := R) (Φ := F) m70, List.forall_mem_cons.2 ⟨Meets.at (pre := R) (Φ := F) m71, (fun _ h => nomatch h)⟩⟩⟩⟩)) (loops_n 0 lk42_2 fun k hk => by omega) L42_2 (fun ρ => (((ρ.getD 5 default).lst.length : Int) - (ρ.getD 1 default).int).toNat) le42_2 fun ρ _ hq => ?_
  obtain ⟨v, g, j, rfl, hj, hm⟩ : prW2 ρ := hq
  rw [maxLen_val] at hm
  by_cases hlt : j < g.E.length
  · have hN : edgeE g.N (el g.E j) = 0 → RoundOk F (R L42_2.key) (fun ρ => (((ρ.getD 5 default).lst.length : Int) - (ρ.getD 1 default).int).toNat) L42_2 [v, .i (j : Int), .s g.nm, .b g.dr, .l g.N, .l g.E, .l g.C] [.i (-1), v, .i ((j + 1 : Nat) : Int)] := fun h0 => by
      refine round_next ⟨⟨v, g, j + 1, rfl, by omega, hm⟩, ?_, ?_⟩
      · show ((g.E.length : Int) - ((j + 1 : Nat) : Int)).toNat < ((g.E.length : Int) - (j : Int)).toNat
        omega
      · show lpW2 [v, .i ((j + 1 : Nat) : Int), .s g.nm, .b g.dr, .l g.N, .l g.E, .l g.C] = lpW2 [v, .i (j : Int), .s g.nm, .b g.dr, .l g.N, .l g.E, .l g.C]
        simp only [lpW2, errLp, Int.toNat_natCast]
        exact scan_next hlt (by simp only [er, h0]; rfl)
    have hX : ∀ z : Int, edgeE g.N (el g.E j) = z → z ≠ 0 → RoundOk F (R L42_2.key) (fun ρ => (((ρ.getD 5 default).lst.length : Int) - (ρ.getD 1 default).int).toNat) L42_2 [v, .i (j : Int), .s g.nm, .b g.dr, .l g.N, .l g.E, .l g.C] [.i 0, .i z, .i (j : Int)] := fun z h0 hz => by
      refine round_exit (by omega) ?_
      show lpW2 [v, .i (j : Int), .s g.nm, .b g.dr, .l g.N, .l g.E, .l g.C] = _
      simp only [lpW2, errLp, Int.toNat_natCast]
      rw [← h0]
      exact scan_hit hlt (by simp only [er, h0]; simpa using hz)
    simp (disch := omega) only [rt42_2, VT.ok, Nd.holds, X.outs, X.ds, X.d, Op1.ev, Op2.ev, takeD_zero, takeD_cons, List.cons_append, List.nil_append, List.getD_cons_zero, List.getD_cons_succ, D.int_i, D.bool_b, D.lst_l, Int.toNat_natCast, implies_true, true_and, F71, R71, ↓reduceIte, dle_t, dlt_t, w64', edgeD7, Int.toNat_natCast]
    by_cases h : edgeE g.N (el g.E j) = 0
    · rw [if_neg (by exact bne_f h)]
      exact hN h
    · rw [if_pos (by exact bne_t h)]
      exact hX _ rfl h
  · have hj' : j = g.E.length := by omega
    subst hj'
    simp (disch := omega) only [rt42_2, VT.ok, X.ds, X.d, Op1.ev, Op2.ev, List.getD_cons_zero, List.getD_cons_succ, D.int_i, D.bool_b, D.lst_l, Bool.false_eq_true, ↓reduceIte, dlt_f]
    refine round_exit (by omega) ?_
    show lpW2 [v, .i (g.E.length : Int), .s g.nm, .b g.dr, .l g.N, .l g.E, .l g.C] = _
    simp only [lpW2, errLp, Int.toNat_natCast]
    exact scan_end
theorem m26 : Meets Try.prog 26 S26 (R 26) (F 26) := by
  refine meets_of_vt (pre := R) (Φ := F) mixed (sgAt_all (P := Try.prog) (pre := R) (Φ := F) (l := sg26) (List.forall_mem_cons.2 ⟨Meets.at (pre := R) (Φ := F) m52, List.forall_mem_cons.2 ⟨Meets.at (pre := R) (Φ := F) m53, List.forall_mem_cons.2 ⟨Meets.at (pre := R) (Φ := F) m54, List.forall_mem_cons.2 ⟨Meets.at (pre := R) (Φ := F) m55, (fun _ h => nomatch h)⟩⟩⟩⟩)) Try.func26 b26 n26 (loops_n 3 k26 fun k hk => match k, hk with | 0, _ => loop_this lf26_0 loopM26_0 | 1, _ => loop_this lf26_1 loopM26_1 | 2, _ => loop_this lf26_2 loopM26_2) e26 fun ds hf hq => ?_
  obtain ⟨g, ds', rfl, h5, hnm, ⟨hmN, _⟩, ⟨hmE, _⟩, ⟨hmC, _⟩⟩ := fitsG hf.flat
  have e0 := fits0 h5
  subst e0
  have hF : F 26 [.s g.nm, .b g.dr, .l g.N, .l g.E, .l g.C] = [.i (validE g)] := rfl
  rw [hF]
  generalize hv : validE g = res
  unfold validE at hv
  by_cases h0 : 64 < (g.N.length : Int) ∨ 256 < (g.E.length : Int) ∨ 16 < (g.C.length : Int)
  · rw [if_pos h0] at hv
    have hc : ((decide (64 < (g.N.length : Int)) || decide (256 < (g.E.length : Int))) || decide (16 < (g.C.length : Int))) = true := by
      simp only [Bool.or_eq_true, decide_eq_true_eq]
      omega
    simp only [vt26, VT.ok, Nd.holds, X.outs, X.ds, X.d, Op1.ev, Op2.ev, List.cons_append, List.nil_append, List.getD_cons_zero, List.getD_cons_succ, D.int_i, D.bool_b, D.lst_l, ite_b, ite_or, if_true, takeD1_0, hc]
    rw [hv]
  · rw [if_neg h0] at hv
    have p0 : prV0 [.i 0, .i (g.N.length : Int), .i 0, .s g.nm, .b g.dr, .l g.N, .l g.E, .l g.C] := ⟨_, g, 0, rfl, by omega, hmN⟩
    have p1 : ∀ v, prV1 [v, .i (g.C.length : Int), .i 0, .s g.nm, .b g.dr, .l g.N, .l g.E, .l g.C] := fun v => ⟨_, g, 0, rfl, by omega, by omega, fun k hk => by omega⟩
    have p2 : ∀ v, prV2 [v, .l g.E, .i (g.E.length : Int), .i 0, .s g.nm, .b g.dr, .l g.N, .l g.E, .l g.C] := fun v => ⟨_, g, 0, rfl, by omega, hmE⟩
    simp (disch := omega) only [vt26, VT.ok, Nd.holds, X.outs, X.ds, X.d, Op1.ev, Op2.ev, takeD_zero, takeD_cons, List.cons_append, List.nil_append, List.getD_cons_zero, List.getD_cons_succ, D.int_i, D.bool_b, D.lst_l, D.str_s, Bool.false_eq_true, implies_true, true_and, F52, R52, F12600, R12600, F12601, R12601, F12602, R12602, ↓reduceIte, dlt_f, nameD, cS, lpV0, lpV1, lpV2, Int.toNat_zero]
    cases h1 : isName g.nm
    · rw [h1] at hv
      simp only [Bool.not_false, if_true]
      rw [← hv]; rfl
    · rw [h1] at hv
      simp only [if_true, Bool.not_true, Bool.false_eq_true, if_false] at hv ⊢
      refine ⟨fun _ => p0, ?_⟩
      rcases errLp_two (nodeE g.N g.C) (.i 0) g.N.length with ⟨h2, h3⟩ | ⟨h2, _, h3⟩
      · rw [if_neg h2] at hv
        simp only [h3, takeD_zero, takeD_cons, List.getD_cons_zero, List.getD_cons_succ, D.int_i, ↓reduceIte, beq_t]
        rw [hv]
      · rw [if_pos h2] at hv
        simp only [h3, takeD_zero, takeD_cons, List.cons_append, List.nil_append, List.getD_cons_zero, List.getD_cons_succ, D.int_i]
        rw [if_neg (by decide)]
        refine ⟨fun _ => p1 _, ?_⟩
        rcases errLp_two (cluE g.N g.C) (.i 0) g.C.length with ⟨h4, h5⟩ | ⟨h4, _, h5⟩
        · rw [if_neg h4] at hv
          simp only [h5, takeD_zero, takeD_cons, List.cons_append, List.nil_append, List.getD_cons_zero, List.getD_cons_succ, D.int_i]
          rw [if_pos (by rfl), hv]
        · rw [if_pos h4] at hv
          simp only [h5, takeD_zero, takeD_cons, List.cons_append, List.nil_append, List.getD_cons_zero, List.getD_cons_succ, D.int_i]
          rw [if_neg (by decide)]
          refine ⟨fun _ => p2 _, ?_⟩
          rcases errLp_two (fun j => edgeE g.N (el g.E j)) (.i 0) g.E.length with ⟨h6, h7⟩ | ⟨h6, _, h7⟩
          · simp only [h7, takeD_zero, takeD_cons, List.getD_cons_zero, List.getD_cons_succ, D.int_i]
            rw [if_pos (by rfl), hv]
          · simp only [h7, takeD_zero, takeD_cons, List.getD_cons_zero, List.getD_cons_succ, D.int_i]
            rw [if_neg (by decide), ← hv, h6]
theorem m42 : Meets Try.prog 42 S42 (R 42) (F 42) := by
  refine meets_of_vt (pre := R) (Φ := F) mixed (sgAt_all (P := Try.prog) (pre := R) (Φ := F) (l := sg42) (List.forall_mem_cons.2 ⟨Meets.at (pre := R) (Φ := F) m68, List.forall_mem_cons.2 ⟨Meets.at (pre := R) (Φ := F) m69, List.forall_mem_cons.2 ⟨Meets.at (pre := R) (Φ := F) m70, List.forall_mem_cons.2 ⟨Meets.at (pre := R) (Φ := F) m71, (fun _ h => nomatch h)⟩⟩⟩⟩)) Try.func42 b42 n42 (loops_n 3 k42 fun k hk => match k, hk with | 0, _ => loop_this lf42_0 loopM42_0 | 1, _ => loop_this lf42_1 loopM42_1 | 2, _ => loop_this lf42_2 loopM42_2) e42 fun ds hf hq => ?_
  obtain ⟨g, ds', rfl, h5, hnm, ⟨hmN, _⟩, ⟨hmE, _⟩, ⟨hmC, _⟩⟩ := fitsG hf.flat
  have e0 := fits0 h5
  subst e0
  have hF : F 42 [.s g.nm, .b g.dr, .l g.N, .l g.E, .l g.C] = [.i (validE g)] := rfl
  rw [hF]
  generalize hv : validE g = res
  unfold validE at hv
  by_cases h0 : 64 < (g.N.length : Int) ∨ 256 < (g.E.length : Int) ∨ 16 < (g.C.length : Int)
  · rw [if_pos h0] at hv
    have hc : ((decide (64 < (g.N.length : Int)) || decide (256 < (g.E.length : Int))) || decide (16 < (g.C.length : Int))) = true := by
      simp only [Bool.or_eq_true, decide_eq_true_eq]
      omega
    simp only [vt42, VT.ok, Nd.holds, X.outs, X.ds, X.d, Op1.ev, Op2.ev, List.cons_append, List.nil_append, List.getD_cons_zero, List.getD_cons_succ, D.int_i, D.bool_b, D.lst_l, ite_b, ite_or, if_true, takeD1_0, hc]
    rw [hv]
  · rw [if_neg h0] at hv
    have p0 : prW0 [.i 0, .i 0, .s g.nm, .b g.dr, .l g.N, .l g.E, .l g.C] := ⟨_, g, 0, rfl, by omega, hmN⟩
    have p1 : ∀ v, prW1 [v, .i 0, .s g.nm, .b g.dr, .l g.N, .l g.E, .l g.C] := fun v => ⟨_, g, 0, rfl, by omega, by omega, fun k hk => by omega⟩
    have p2 : ∀ v, prW2 [v, .i 0, .s g.nm, .b g.dr, .l g.N, .l g.E, .l g.C] := fun v => ⟨_, g, 0, rfl, by omega, hmE⟩
    simp (disch := omega) only [vt42, VT.ok, Nd.holds, X.outs, X.ds, X.d, Op1.ev, Op2.ev, takeD_zero, takeD_cons, List.cons_append, List.nil_append, List.getD_cons_zero, List.getD_cons_succ, D.int_i, D.bool_b, D.lst_l, D.str_s, Bool.false_eq_true, implies_true, true_and, F68, R68, F14200, R14200, F14201, R14201, F14202, R14202, ↓reduceIte, dlt_f, nameD, cS, lpW0, lpW1, lpW2, Int.toNat_zero]
    cases h1 : isName g.nm
    · rw [h1] at hv
      simp only [Bool.not_false, if_true]
      rw [← hv]; rfl
    · rw [h1] at hv
      simp only [if_true, Bool.not_true, Bool.false_eq_true, if_false] at hv ⊢
      refine ⟨fun _ => p0, ?_⟩
      rcases errLp_two (nodeE g.N g.C) (.i 0) g.N.length with ⟨h2, h3⟩ | ⟨h2, _, h3⟩
      · rw [if_neg h2] at hv
        simp only [h3, takeD_zero, takeD_cons, List.getD_cons_zero, List.getD_cons_succ, D.int_i, ↓reduceIte, beq_t]
        rw [hv]
      · rw [if_pos h2] at hv
        simp only [h3, takeD_zero, takeD_cons, List.cons_append, List.nil_append, List.getD_cons_zero, List.getD_cons_succ, D.int_i]
        rw [if_neg (by decide)]
        refine ⟨fun _ => p1 _, ?_⟩
        rcases errLp_two (cluE g.N g.C) (.i 0) g.C.length with ⟨h4, h5⟩ | ⟨h4, _, h5⟩
        · rw [if_neg h4] at hv
          simp only [h5, takeD_zero, takeD_cons, List.cons_append, List.nil_append, List.getD_cons_zero, List.getD_cons_succ, D.int_i]
          rw [if_pos (by rfl), hv]
        · rw [if_pos h4] at hv
          simp only [h5, takeD_zero, takeD_cons, List.cons_append, List.nil_append, List.getD_cons_zero, List.getD_cons_succ, D.int_i]
          rw [if_neg (by decide)]
          refine ⟨fun _ => p2 _, ?_⟩
          rcases errLp_two (fun j => edgeE g.N (el g.E j)) (.i 0) g.E.length with ⟨h6, h7⟩ | ⟨h6, _, h7⟩
          · simp only [h7, takeD_zero, takeD_cons, List.getD_cons_zero, List.getD_cons_succ, D.int_i]
            rw [if_pos (by rfl), hv]
          · simp only [h7, takeD_zero, takeD_cons, List.getD_cons_zero, List.getD_cons_succ, D.int_i]
            rw [if_neg (by decide), ← hv, h6]
end Go.Proofs.Ytindllmeeckfcaa.rv
namespace Go.Proofs.Ytindllmeeckfcaa.rv
set_option maxRecDepth 10000
open Go.RV
theorem cfOv {f : FuncId} (hf : f = 59 ∨ f = 77) (l : List Bx) (q : Bx) :
    ixPre (dpBx 24 27 59 77) 4 [.l (l.map encQ), .c f [.pt [.int .i64, .int .i64, .int .i64, .int .i64]] [.p [.i q.1, .i q.2.1, .i q.2.2.1, .i q.2.2.2]]] ∧ cfFn dyBx 4 [.l (l.map encQ), .c f [.pt [.int .i64, .int .i64, .int .i64, .int .i64]] [.p [.i q.1, .i q.2.1, .i q.2.2.1, .i q.2.2.2]]] = [.b (anyN (ovJ l q) l.length)] := by
  have := cf_ov hf l q
  rw [R25, F25] at this
  exact this
theorem cfBad {f : FuncId} (hf : f = 24 ∨ f = 27) (l : List Bx) :
    ixPre (dpBx 24 27 59 77) 4 [.l (l.map encQ), .c f [] []] ∧ cfFn dyBx 4 [.l (l.map encQ), .c f [] []] = [.b (badL l)] := by
  have := cf_bad hf l
  rw [R25, F25] at this
  exact this
theorem takeQ (l : List Bx) (j : Nat) : (l.map encQ).take j = (l.take j).map encQ := (List.map_take ..).symm
theorem extRaw (a b c d : Int) : fn29 [.i a, .i b, .i c, .i d] = [.i (IntKind.i64.wrap (c - a)), .i (IntKind.i64.wrap (d - b))] := rfl
theorem badCode (q : Bx) (W H : Int) : (!bxB q.1 q.2.1 q.2.2.1 q.2.2.2 || !((IntKind.i64.wrap (q.2.2.1 - q.1) == W) && (IntKind.i64.wrap (q.2.2.2 - q.2.1) == H))) = (!bxQ q || (!((extQ q).1 == W) || !((extQ q).2 == H))) := by
  cases h : bxQ q
  · have h' : bxB q.1 q.2.1 q.2.2.1 q.2.2.2 = false := h
    rw [h']; rfl
  · have h' : bxB q.1 q.2.1 q.2.2.1 q.2.2.2 = true := h
    obtain ⟨e1, e2⟩ := ext_i64 (smQ_of h)
    rw [h', e1, e2, Bool.not_and]
theorem loopM48_0 : LoopMeets Try.prog F (R L48_0.key) L48_0 lb48_0 := by
  refine loop_meets (pre := R) mixed (sgAt_all (P := Try.prog) (pre := R) (Φ := F) (l := sg48) (List.forall_mem_cons.2 ⟨Meets.at (pre := R) (Φ := F) m26, List.forall_mem_cons.2 ⟨Meets.at (pre := R) (Φ := F) m28, List.forall_mem_cons.2 ⟨Meets.at (pre := R) (Φ := F) m17, List.forall_mem_cons.2 ⟨Meets.at (pre := R) (Φ := F) m29, List.forall_mem_cons.2 ⟨Meets.at (pre := R) (Φ := F) m25, (fun _ h => nomatch h)⟩⟩⟩⟩⟩)) (loops_n 0 lk48_0 fun k hk => by omega) L48_0 (fun ρ => ((ρ.getD 2 default).int - (ρ.getD 3 default).int).toNat) le48_0 fun ρ _ hq => ?_
  obtain ⟨v, B, g, j, rfl, hj, hN, h64⟩ : prA0 ρ := hq
  by_cases hlt : j < B.length
  · simp (disch := omega) only [rt48_0, VT.ok, Nd.holds, X.outs, X.ds, X.d, Op1.ev, Op2.ev, takeD_zero, takeD_cons, List.cons_append, List.nil_append, List.getD_cons_zero, List.getD_cons_succ, D.int_i, D.bool_b, D.lst_l, ite_b, ite_or, ite_and, Int.toNat_natCast, List.length_map, implies_true, true_and, F17, R17, F29, R29, ↓reduceIte, dle_t, dlt_t, w64', rowQz, encQ, fn17_eq, extRaw]
    rw [badCode]
    show if badB g.N B j = true then _ else _
    cases hb : badB g.N B j
    · simp only [Bool.false_eq_true, if_false]
      refine round_next ⟨⟨v, B, g, j + 1, rfl, by omega, hN, h64⟩, ?_, ?_⟩
      · show ((B.length : Int) - ((j + 1 : Nat) : Int)).toNat < ((B.length : Int) - (j : Int)).toNat
        omega
      · show lpA0 [v, .l (B.map encQ), .i (B.length : Int), .i ((j + 1 : Nat) : Int), .s g.nm, .b g.dr, .l g.N, .l g.E, .l g.C] = lpA0 [v, .l (B.map encQ), .i (B.length : Int), .i (j : Int), .s g.nm, .b g.dr, .l g.N, .l g.E, .l g.C]
        simp only [lpA0, map_decQ, List.length_map, Int.toNat_natCast]
        exact scan_next hlt hb
    · simp only [if_true]
      refine round_exit (by omega) ?_
      show lpA0 [v, .l (B.map encQ), .i (B.length : Int), .i (j : Int), .s g.nm, .b g.dr, .l g.N, .l g.E, .l g.C] = _
      simp only [lpA0, map_decQ, List.length_map, Int.toNat_natCast]
      exact scan_hit hlt hb
  · have hj' : j = B.length := by omega
    subst hj'
    simp (disch := omega) only [rt48_0, VT.ok, X.ds, X.d, Op2.ev, List.getD_cons_zero, List.getD_cons_succ, D.int_i, D.bool_b, Bool.false_eq_true, ↓reduceIte, dlt_f]
    refine round_exit (by omega) ?_
    show lpA0 [v, .l (B.map encQ), .i (B.length : Int), .i (B.length : Int), .s g.nm, .b g.dr, .l g.N, .l g.E, .l g.C] = _
    simp only [lpA0, map_decQ, List.length_map, Int.toNat_natCast]
    exact scan_end
theorem loopM48_1 : LoopMeets Try.prog F (R L48_1.key) L48_1 lb48_1 := by
  refine loop_meets (pre := R) mixed (sgAt_all (P := Try.prog) (pre := R) (Φ := F) (l := sg48) (List.forall_mem_cons.2 ⟨Meets.at (pre := R) (Φ := F) m26, List.forall_mem_cons.2 ⟨Meets.at (pre := R) (Φ := F) m28, List.forall_mem_cons.2 ⟨Meets.at (pre := R) (Φ := F) m17, List.forall_mem_cons.2 ⟨Meets.at (pre := R) (Φ := F) m29, List.forall_mem_cons.2 ⟨Meets.at (pre := R) (Φ := F) m25, (fun _ h => nomatch h)⟩⟩⟩⟩⟩)) (loops_n 0 lk48_1 fun k hk => by omega) L48_1 (fun ρ => ((ρ.getD 3 default).int - (ρ.getD 4 default).int).toNat) le48_1 fun ρ _ hq => ?_
  obtain ⟨v, B, j, rfl, hj, hm⟩ : prA1 ρ := hq
  rw [maxLen_val] at hm
  by_cases hlt : j < B.length
  · have hcf := cfOv (f := 77) (.inr rfl) (B.take j) (B.getD j z4)
    rw [ov_take (by omega)] at hcf
    simp (disch := omega) only [rt48_1, VT.ok, Nd.holds, X.outs, X.ds, X.d, Op1.ev, Op2.ev, takeD_zero, takeD_cons, List.cons_append, List.nil_append, List.getD_cons_zero, List.getD_cons_succ, D.int_i, D.bool_b, D.lst_l, Int.toNat_natCast, List.length_map, implies_true, true_and, F25, R25, ↓reduceIte, dle_t, dlt_t, w64', rowQz, encQ, Int.toNat_zero, List.drop_zero, takeQ, hcf.2]
    refine ⟨fun _ => hcf.1, ?_⟩
    show if ovN B j = true then _ else _
    cases hb : ovN B j
    · simp only [Bool.false_eq_true, if_false]
      refine round_next ⟨⟨v, B, j + 1, rfl, by omega, hm⟩, ?_, ?_⟩
      · show ((B.length : Int) - ((j + 1 : Nat) : Int)).toNat < ((B.length : Int) - (j : Int)).toNat
        omega
      · show lpA1 [.l (B.map encQ), v, .l (B.map encQ), .i (B.length : Int), .i ((j + 1 : Nat) : Int)] = lpA1 [.l (B.map encQ), v, .l (B.map encQ), .i (B.length : Int), .i (j : Int)]
        simp only [lpA1, map_decQ, List.length_map, Int.toNat_natCast]
        exact scan_next hlt hb
    · simp only [if_true]
      refine round_exit (by omega) ?_
      show lpA1 [.l (B.map encQ), v, .l (B.map encQ), .i (B.length : Int), .i (j : Int)] = _
      simp only [lpA1, map_decQ, List.length_map, Int.toNat_natCast]
      exact scan_hit hlt hb
  · have hj' : j = B.length := by omega
    subst hj'
    simp (disch := omega) only [rt48_1, VT.ok, X.ds, X.d, Op2.ev, List.getD_cons_zero, List.getD_cons_succ, D.int_i, D.bool_b, Bool.false_eq_true, ↓reduceIte, dlt_f]
    refine round_exit (by omega) ?_
    show lpA1 [.l (B.map encQ), v, .l (B.map encQ), .i (B.length : Int), .i (B.length : Int)] = _
    simp only [lpA1, map_decQ, List.length_map, Int.toNat_natCast]
    exact scan_end
theorem fitsGO {e1 e2 e3 e4 : TypeId} {c1 c2 c3 : List CT} {rest : List CT} {ds : List D} (h : FitsF (.str :: .bool :: .sl e1 c1 :: .sl e2 c2 :: .sl e3 c3 :: .int .i64 :: .int .i64 :: .int .i64 :: .int .i64 :: .int .i64 :: .sl e4 [.int .i64, .int .i64, .int .i64, .int .i64] :: rest) ds) :
    ∃ (g : Gd) (o : Od) (B : List Bx) (ds' : List D), ds = .s g.nm :: .b g.dr :: .l g.N :: .l g.E :: .l g.C :: .i o.md :: .i o.ns :: .i o.rs :: .i o.m :: .i o.rd :: .l (B.map encQ) :: ds' ∧ FitsF rest ds' ∧ B.length ≤ maxLen ∧ (∀ x ∈ g.N, FitsF c1 x) ∧ (∀ x ∈ g.C, FitsF c3 x) ∧ (g.N.length ≤ maxLen ∧ g.C.length ≤ maxLen) := by
  obtain ⟨g, ds1, rfl, h1, _, ⟨hn0, hn⟩, _, hc0, hc⟩ := fitsG h
  match ds1, h1 with
  | a :: b :: c :: d :: e :: l :: ds', ⟨k0, k1, k2, k3, k4, k5, k6⟩ =>
    obtain ⟨a, rfl, _⟩ := wf_i64 k0
    obtain ⟨b, rfl, _⟩ := wf_i64 k1
    obtain ⟨c, rfl, _⟩ := wf_i64 k2
    obtain ⟨d, rfl, _⟩ := wf_i64 k3
    obtain ⟨e, rfl, _⟩ := wf_i64 k4
    obtain ⟨B, rfl, hm, _⟩ := slQ k5
    exact ⟨g, ⟨a, b, c, d, e⟩, B, ds', rfl, k6, hm, hn, hc, hn0, hc0⟩
theorem inD_eq (g : Gd) (o : Od) (B : List Bx) : inD [.s g.nm, .b g.dr, .l g.N, .l g.E, .l g.C, .i o.md, .i o.ns, .i o.rs, .i o.m, .i o.rd, .l (B.map encQ)] = [.i (inE g o B)] := by
  show [D.i (inE g o ((B.map encQ).map decQ))] = _
  rw [map_decQ]
theorem valid_len {g : Gd} (h : validE g = 0) : g.N.length ≤ 64 ∧ g.C.length ≤ 16 := by
  unfold validE at h
  split at h
  · cases h
  · rename_i h1
    omega
theorem inE_err {g : Gd} {o : Od} {B : List Bx} (h : ¬ validE g = 0) : inE g o B = validE g := by rw [inE, if_neg h]
theorem m48 : Meets Try.prog 48 S48 (R 48) (F 48) := by
  refine meets_of_vt (pre := R) (Φ := F) mixed (sgAt_all (P := Try.prog) (pre := R) (Φ := F) (l := sg48) (List.forall_mem_cons.2 ⟨Meets.at (pre := R) (Φ := F) m26, List.forall_mem_cons.2 ⟨Meets.at (pre := R) (Φ := F) m28, List.forall_mem_cons.2 ⟨Meets.at (pre := R) (Φ := F) m17, List.forall_mem_cons.2 ⟨Meets.at (pre := R) (Φ := F) m29, List.forall_mem_cons.2 ⟨Meets.at (pre := R) (Φ := F) m25, (fun _ h => nomatch h)⟩⟩⟩⟩⟩)) Try.func48 b48 n48 (loops_n 2 k48 fun k hk => match k, hk with | 0, _ => loop_this lf48_0 loopM48_0 | 1, _ => loop_this lf48_1 loopM48_1) e48 fun ds hf _ => ?_
  obtain ⟨g, o, B, ds', rfl, h0, hm, _⟩ := fitsGO hf.flat
  obtain rfl := fits0 h0
  have hv : validD [.s g.nm, .b g.dr, .l g.N, .l g.E, .l g.C] = [.i (validE g)] := rfl
  have ho := fn28_eq o.md o.ns o.rs o.m o.rd
  simp only [vt48, VT.ok, Nd.holds, X.outs, X.ds, X.d, Op1.ev, Op2.ev, takeD_zero, takeD_cons, List.cons_append, List.nil_append, List.getD_cons_zero, List.getD_cons_succ, D.int_i, D.bool_b, D.lst_l, List.length_map, implies_true, true_and, F26, R26, F28, R28, F14800, R14800, F14801, R14801, F48, hv, ho, inD_eq]
  by_cases h1 : validE g = 0
  · obtain ⟨v1, v2⟩ := valid_len h1
    have hb : (!(validE g == 0)) = false := by simp [h1]
    simp only [hb, Bool.false_eq_true, if_false]
    by_cases h2 : o.ok = true
    · simp only [show (Od.ok ⟨o.md, o.ns, o.rs, o.m, o.rd⟩) = true from h2, Bool.not_true, Bool.false_eq_true, if_false]
      by_cases h3 : B.length = g.N.length
      · have h3' : (!((B.length : Int) == (g.N.length : Int))) = false := by simp [h3]
        have e1 : lpA0 [.i 0, .l (B.map encQ), .i (B.length : Int), .i 0, .s g.nm, .b g.dr, .l g.N, .l g.E, .l g.C] = scanN (badB g.N B) (fun j => [.i 0, .i 1, .i (j : Int)]) (fun j => [.i 1, .i 0, .i (j : Int)]) B.length 0 := by
          simp only [lpA0, map_decQ, List.length_map, Int.toNat_zero, Nat.sub_zero]
        have e2 : lpA1 [.l (B.map encQ), .i 0, .l (B.map encQ), .i (B.length : Int), .i 0] = scanN (ovN B) (fun j => [.i 0, .i 14, .i (j : Int)]) (fun j => [.i 1, .i 0, .i (j : Int)]) B.length 0 := by
          simp only [lpA1, map_decQ, List.length_map, Int.toNat_zero, Nat.sub_zero]
        have hp0 : prA0 [.i 0, .l (B.map encQ), .i (B.length : Int), .i 0, .s g.nm, .b g.dr, .l g.N, .l g.E, .l g.C] := ⟨.i 0, B, g, 0, rfl, by omega, by omega, by omega⟩
        have hp1 : prA1 [.l (B.map encQ), .i 0, .l (B.map encQ), .i (B.length : Int), .i 0] := ⟨.i 0, B, 0, rfl, by omega, hm⟩
        have hin : inE g o B = if anyN (badB g.N B) B.length = true then 1 else if anyN (ovN B) B.length = true then 14 else 0 := by
          rw [inE, if_pos h1, if_pos h2, if_pos h3]
        simp only [h3', Bool.false_eq_true, if_false, e1]
        refine ⟨fun _ => hp0, ?_⟩
        rcases scan_any (p := badB g.N B) (hit := fun j => [D.i 0, .i 1, .i (j : Int)]) (miss := fun j => [D.i 1, .i 0, .i (j : Int)]) B.length with ⟨k1, j, _, _, _, k2⟩ | ⟨k1, k2⟩
        · rw [k2, hin, if_pos k1]
          simp only [takeD_zero, takeD_cons, List.cons_append, List.nil_append, List.getD_cons_zero, List.getD_cons_succ, D.int_i, if_true, show ((0 : Int) == 0) = true from rfl]
        · rw [if_neg (by rw [k1]; decide)] at hin
          rw [k2, hin]
          simp only [takeD_zero, takeD_cons, List.cons_append, List.nil_append, List.getD_cons_zero, List.getD_cons_succ, D.int_i, Bool.false_eq_true, if_false, show ((1 : Int) == 0) = false from rfl, e2]
          refine ⟨fun _ => hp1, ?_⟩
          rcases scan_any (p := ovN B) (hit := fun j => [D.i 0, .i 14, .i (j : Int)]) (miss := fun j => [D.i 1, .i 0, .i (j : Int)]) B.length with ⟨k1, j, _, _, _, k2⟩ | ⟨k1, k2⟩
          · rw [if_pos k1]
            rw [k2]
            simp only [takeD_zero, takeD_cons, List.getD_cons_zero, List.getD_cons_succ, D.int_i, if_true, show ((0 : Int) == 0) = true from rfl]
          · rw [if_neg (c := anyN (ovN B) B.length = true) (by rw [k1]; decide)]
            rw [k2]
            simp only [takeD_zero, takeD_cons, List.getD_cons_zero, List.getD_cons_succ, D.int_i, Bool.false_eq_true, if_false, show ((1 : Int) == 0) = false from rfl]
      · have h3' : (!((B.length : Int) == (g.N.length : Int))) = true := by simp; omega
        simp only [h3', if_true]
        rw [inE, if_pos h1, if_pos h2, if_neg h3]
    · have h2' : Od.ok ⟨o.md, o.ns, o.rs, o.m, o.rd⟩ = false := Bool.eq_false_iff.2 h2
      simp only [h2', Bool.not_false, if_true]
      rw [inE, if_pos h1, if_neg h2]
  · have hb : (!(validE g == 0)) = true := by simp [h1]
    rw [if_pos hb, inE_err h1]
end Go.Proofs.Ytindllmeeckfcaa.rv
namespace Go.Proofs.Ytindllmeeckfcaa.rv
set_option maxRecDepth 10000
open Go.RV
theorem round_step {Φ : FuncId → List D → List D} {pre : List D → Prop} {μ : List D → Nat} {L : LoopSig} {ρ vals : List D} (ρ' : List D) (hs : setVars ρ L.wv vals = ρ') (h1 : pre ρ') (h2 : μ ρ' < μ ρ) (h3 : Φ L.key ρ' = Φ L.key ρ) : RoundOk Φ pre μ L ρ (.i (-1) :: vals) :=
  round_next (by rw [hs]; exact ⟨h1, h2, h3⟩)
theorem updTs {T : List (List Tp)} {i : Nat} {t : List Tp} (h : i < T.length) : (T.map encTs).set i (splice ((T.map encTs).getD i []) 0 [.l (t.map encT)]) = (T.set i t).map encTs := by
  have e : (T.map encTs).getD i [] = encTs (T.getD i []) := row_get (enc := encTs) [] h
  rw [e, List.map_set]; rfl
theorem updP {S : List Pt} {i : Nat} {a b : Int} (h : i < S.length) : (S.map encP).set i (splice ((S.map encP).getD i []) 0 [.i a, .i b]) = (S.set i (a, b)).map encP := by
  rw [rowPz h, List.map_set]; rfl
theorem setP_at {S : List Pt} {i : Nat} {z : Pt} (h : i < S.length) : ((S.set i z).map encP).getD i [] = encP z := by
  rw [row_get (enc := encP) pz (by rw [List.length_set]; exact h)]
  simp [List.getD, h]
theorem z_wrap {q : Bx} (hq : bxQ q = true) {m : Int} (hm : 0 ≤ m ∧ m ≤ 1048576) : IntKind.i64.wrap ((extQ q).1 + 2 * m) = (extQ q).1 + 2 * m ∧ IntKind.i64.wrap ((extQ q).2 + 2 * m) = (extQ q).2 + 2 * m := by
  have h := bxB_iff.1 hq
  exact ⟨w64 (by simp only [extQ]; omega), w64 (by simp only [extQ]; omega)⟩
theorem pack_eq (p : Pn) (c : Int) : packD [.p p.l, .i c] = packR p c := by
  show packR (pnOf p.d) c = _
  rw [pnOf_d]
theorem arL_next (a : Ar) (v e : D) (k : Nat) (S : List Pt) (T : List (List Tp)) (h : a.e S k = 0) (hz : zOk (a.z S k) = true) : arL a v e (k + 1) S T = arL a v e k (S.set k (a.z S k)) (T.set k (a.t S k)) := by
  rw [arL, if_pos h, if_pos hz]
theorem Pn.fit_set {p : Pn} (h : p.fit) (S : List Pt) (T : List (List Tp)) (hS : S.length = p.S.length) : (Pn.mk p.g p.o p.B T S).fit := by
  obtain ⟨h1, h2, h3, h4⟩ := h
  exact ⟨h1, h2, h3, hS.trans h4⟩
theorem lpAr2_eq (v e _n : D) (p : Pn) (k : Nat) : lpAr2 [v, e, .i (p.g.C.length : Int), .i ((k : Int) - 2), .i p.o.md, .i p.o.ns, .i p.o.rs, .i p.o.m, .i p.o.rd, .l (p.T.map encTs), .l (p.S.map encP), .s p.g.nm, .b p.g.dr, .l p.g.N, .l p.g.E, .l p.g.C, .i p.o.md, .i p.o.ns, .i p.o.rs, .i p.o.m, .i p.o.rd, .l (p.B.map encQ)] = arL0 (arP p) v e k p.S p.T := by
  have hk : ((k : Int) - 2 + 2).toNat = k := by omega
  simp only [lpAr2, map_decQ, map_decP, map_decTs, hk]
  rfl
theorem lpAr2_eq2 (v e : D) (p : Pn) (S : List Pt) (T : List (List Tp)) (k : Nat) : lpAr2 [v, e, .i (p.g.C.length : Int), .i ((k : Int) - 2), .i p.o.md, .i p.o.ns, .i p.o.rs, .i p.o.m, .i p.o.rd, .l (T.map encTs), .l (S.map encP), .s p.g.nm, .b p.g.dr, .l p.g.N, .l p.g.E, .l p.g.C, .i p.o.md, .i p.o.ns, .i p.o.rs, .i p.o.m, .i p.o.rd, .l (p.B.map encQ)] = arL0 (arP p) v e k S T := lpAr2_eq v e (.i 0) ⟨p.g, p.o, p.B, T, S⟩ k
theorem pack_ok {p : Pn} {c : Int} (h : (arP p).e p.S c = 0) : packR p c = [.l (((arP p).t p.S c).map encT), .i (extQ (uni (best ((arP p).P p.S c) p.o.ns))).1, .i (extQ (uni (best ((arP p).P p.S c) p.o.ns))).2, .i 0] := by rw [packR, if_pos h]
theorem pack_no {p : Pn} {c : Int} (h : ¬ (arP p).e p.S c = 0) : packR p c = [.l [], .i 0, .i 0, .i 2] := by rw [packR, if_neg h]
theorem prAr2_mk (v e : D) (p : Pn) (S : List Pt) (T : List (List Tp)) (k : Nat) (hk : k ≤ p.g.C.length + 1) (hf : p.fit) (hS : S.length = p.S.length) (hT : T.length = p.g.C.length + 1) (ho : p.o.ok = true) :
    prAr2 [v, e, .i (p.g.C.length : Int), .i ((k : Int) - 2), .i p.o.md, .i p.o.ns, .i p.o.rs, .i p.o.m, .i p.o.rd, .l (T.map encTs), .l (S.map encP), .s p.g.nm, .b p.g.dr, .l p.g.N, .l p.g.E, .l p.g.C, .i p.o.md, .i p.o.ns, .i p.o.rs, .i p.o.m, .i p.o.rd, .l (p.B.map encQ)] :=
  ⟨v, e, ⟨p.g, p.o, p.B, T, S⟩, k, rfl, hk, Pn.fit_set hf _ _ hS, hT, ho⟩
set_option maxHeartbeats 400000 in
theorem loopM19_0 : LoopMeets Try.prog F (R L19_0.key) L19_0 lb19_0 := by
  refine loop_meets (pre := R) mixed (sgAt_all (P := Try.prog) (pre := R) (Φ := F) (l := sg19) (List.forall_mem_cons.2 ⟨Meets.at (pre := R) (Φ := F) m48, List.forall_mem_cons.2 ⟨Meets.at (pre := R) (Φ := F) m49, List.forall_mem_cons.2 ⟨Meets.at (pre := R) (Φ := F) m17, (fun _ h => nomatch h)⟩⟩⟩)) (loops_n 0 lk19_0 fun k hk => by omega) L19_0 (fun ρ => ((ρ.getD 3 default).int + 2).toNat) le19_0 fun ρ _ hq => ?_
  obtain ⟨v, e, p, k, rfl, hk, hf, hT, ho⟩ : prAr2 ρ := hq
  have hf' := hf
  obtain ⟨f1, f2, f3, f4⟩ := hf'
  have hom := (Od.ok_iff.1 ho).2.2.2.1
  cases k with
  | zero =>
    have h2 : (((0 : Nat) : Int) - 2) = -2 := rfl
    simp (disch := omega) only [rt19_0, VT.ok, X.ds, X.d, Op2.ev, List.getD_cons_zero, List.getD_cons_succ, D.int_i, D.bool_b, Bool.false_eq_true, ↓reduceIte, dle_f, h2]
    refine round_exit (by omega) ?_
    have := lpAr2_eq v e (.i 0) p 0
    rw [h2] at this
    rw [show F L19_0.key = lpAr2 from rfl, this]; rfl
  | succ k =>
    have h2 : (((k + 1 : Nat) : Int) - 2) = (k : Int) - 1 := by omega
    have hnext : IntKind.i64.wrap ((k : Int) - 1 - 1) = ((k : Nat) : Int) - 2 := by rw [w64 (by omega)]; omega
    have hpk : packD [.p [.s p.g.nm, .b p.g.dr, .l p.g.N, .l p.g.E, .l p.g.C, .i p.o.md, .i p.o.ns, .i p.o.rs, .i p.o.m, .i p.o.rd, .l (p.B.map encQ), .l (p.T.map encTs), .l (p.S.map encP)], .i ((k : Int) - 1)] = packR p ((k : Int) - 1) := pack_eq p _
    have hpre : ownCP [.p [.s p.g.nm, .b p.g.dr, .l p.g.N, .l p.g.E, .l p.g.C, .i p.o.md, .i p.o.ns, .i p.o.rs, .i p.o.m, .i p.o.rd, .l (p.B.map encQ), .l (p.T.map encTs), .l (p.S.map encP)], .i ((k : Int) - 1)] := ⟨p, _, rfl, hf⟩
    have hlp := lpAr2_eq v e (.i 0) p (k + 1)
    rw [h2] at hlp ⊢
    have hout : arL0 (arP p) v e (k + 1) p.S p.T = arL (arP p) v e k p.S p.T := rfl
    rw [hout] at hlp
    simp (disch := omega) only [rt19_0, VT.ok, Nd.holds, X.outs, X.ds, X.d, Op1.ev, Op2.ev, List.cons_append, List.nil_append, List.getD_cons_zero, List.getD_cons_succ, D.int_i, D.bool_b, D.lst_l, Int.toNat_natCast, List.length_map, implies_true, true_and, F17, R17, F49, R49, ↓reduceIte, dle_t, dlt_t, w64', hpk]
    refine ⟨fun _ => hpre, ?_⟩
    by_cases hc : (arP p).e p.S ((k : Int) - 1) = 0
    · rw [pack_ok hc]
      simp only [takeD_zero, takeD_cons, List.cons_append, List.nil_append, List.getD_cons_zero, List.getD_cons_succ, D.int_i, Bool.false_eq_true, if_false, takeD1_0, show (!((0 : Int) == 0)) = false from rfl]
      cases k with
      | zero =>
        have h3 : (((0 : Nat) : Int) - 1) = -1 := rfl
        rw [h3] at hc hlp hnext ⊢
        simp (disch := omega) only [↓reduceIte, dlt_t, updTs]
        rw [show (-1 - 1 : Int) = ((0 : Nat) : Int) - 2 from rfl]
        refine round_step [v, e, .i (p.g.C.length : Int), .i (((0 : Nat) : Int) - 2), .i p.o.md, .i p.o.ns, .i p.o.rs, .i p.o.m, .i p.o.rd, .l ((p.T.set p.g.C.length ((arP p).t p.S (-1))).map encTs), .l ((p.S).map encP), .s p.g.nm, .b p.g.dr, .l p.g.N, .l p.g.E, .l p.g.C, .i p.o.md, .i p.o.ns, .i p.o.rs, .i p.o.m, .i p.o.rd, .l (p.B.map encQ)] rfl (prAr2_mk v e p p.S (p.T.set p.g.C.length ((arP p).t p.S (-1))) 0 (by omega) hf rfl (by rw [List.length_set]; exact hT) ho) ?_ ?_
        · show (((0 : Nat) : Int) - 2 + 2).toNat < ((-1 : Int) + 2).toNat
          decide
        · rw [show F L19_0.key = lpAr2 from rfl, lpAr2_eq2, hlp, arL, if_pos hc]; rfl
      | succ k =>
        have h3 : (((k + 1 : Nat) : Int) - 1) = (k : Int) := by omega
        rw [h3] at hc hlp hnext ⊢
        have hkC : k < p.g.C.length := by omega
        have hq := uni_ok (best ((arP p).P p.S k) p.o.ns)
        obtain ⟨w1, w2⟩ := z_wrap hq hom
        have hz : (arP p).z p.S k = ((extQ (uni (best ((arP p).P p.S k) p.o.ns))).1 + 2 * p.o.m, (extQ (uni (best ((arP p).P p.S k) p.o.ns))).2 + 2 * p.o.m) := rfl
        simp (disch := omega) only [List.getD_cons_zero, List.getD_cons_succ, D.int_i, D.bool_b, Int.toNat_natCast, List.length_map, Bool.false_eq_true, implies_true, true_and, ↓reduceIte, dle_t, dlt_t, dlt_f, List.length_map, updTs, updP, w1, w2, List.length_set, setP_at, encP, fn17_eq, Int.toNat_natCast]
        have hzk : bxB 0 0 ((extQ (uni (best ((arP p).P p.S k) p.o.ns))).1 + 2 * p.o.m) ((extQ (uni (best ((arP p).P p.S k) p.o.ns))).2 + 2 * p.o.m) = zOk ((arP p).z p.S k) := rfl
        rw [hzk, ← hz]
        cases hzo : zOk ((arP p).z p.S k)
        · simp only [Bool.not_false, if_true]
          refine round_exit (by omega) ?_
          rw [show F L19_0.key = lpAr2 from rfl, hlp]
          rw [arL, if_pos hc, if_neg (by rw [hzo]; decide)]
        · simp only [Bool.not_true, Bool.false_eq_true, if_false]
          rw [show ((k : Int) - 1) = ((k + 1 : Nat) : Int) - 2 by omega]
          refine round_step [v, e, .i (p.g.C.length : Int), .i (((k + 1 : Nat) : Int) - 2), .i p.o.md, .i p.o.ns, .i p.o.rs, .i p.o.m, .i p.o.rd, .l ((p.T.set k ((arP p).t p.S k)).map encTs), .l ((p.S.set k ((arP p).z p.S k)).map encP), .s p.g.nm, .b p.g.dr, .l p.g.N, .l p.g.E, .l p.g.C, .i p.o.md, .i p.o.ns, .i p.o.rs, .i p.o.m, .i p.o.rd, .l (p.B.map encQ)] rfl (prAr2_mk v e p (p.S.set k ((arP p).z p.S k)) (p.T.set k ((arP p).t p.S k)) (k + 1) (by omega) hf (List.length_set ..) (by rw [List.length_set]; exact hT) ho) ?_ ?_
          · show (((k + 1 : Nat) : Int) - 2 + 2).toNat < ((k : Int) + 2).toNat
            omega
          · rw [show F L19_0.key = lpAr2 from rfl, lpAr2_eq2, hlp, arL_next _ _ _ _ _ _ hc hzo]; rfl
    · rw [pack_no hc]
      simp only [takeD_zero, takeD_cons, List.cons_append, List.nil_append, List.getD_cons_zero, List.getD_cons_succ, D.int_i, if_true, takeD1_0, show (!((2 : Int) == 0)) = true from rfl, if_true]
      refine round_exit (by omega) ?_
      rw [show F L19_0.key = lpAr2 from rfl, hlp]
      cases k with
      | zero => rw [arL, if_neg (show ¬ (arP p).e p.S (-1) = 0 from hc)]; rfl
      | succ k =>
        have h3 : (((k + 1 : Nat) : Int) - 1) = (k : Int) := by omega
        rw [h3] at hc ⊢
        rw [arL, if_neg hc]
theorem sizesD_eq (g : Gd) (o : Od) (B : List Bx) : sizesD [.s g.nm, .b g.dr, .l g.N, .l g.E, .l g.C, .i o.md, .i o.ns, .i o.rs, .i o.m, .i o.rd, .l (B.map encQ)] = [.l ((sizesR g o B).1.map encQ), .i (sizesR g o B).2] := by
  show [D.l ((sizesR g o ((B.map encQ).map decQ)).1.map encQ), .i (sizesR g o ((B.map encQ).map decQ)).2] = _
  rw [map_decQ]
theorem inE_ok {g : Gd} {o : Od} {B : List Bx} (h : inE g o B = 0) : validE g = 0 ∧ o.ok = true ∧ B.length = g.N.length ∧ anyN (badB g.N B) B.length = false ∧ anyN (ovN B) B.length = false := by
  unfold inE at h
  split at h
  · rename_i h1
    split at h
    · rename_i h2
      split at h
      · rename_i h3
        split at h
        · cases h
        · rename_i h4
          split at h
          · cases h
          · rename_i h5
            exact ⟨h1, h2, h3, Bool.eq_false_iff.2 h4, Bool.eq_false_iff.2 h5⟩
      · cases h
    · cases h
  · rename_i h1; exact absurd h h1
theorem planD_eq (g : Gd) (o : Od) (B : List Bx) : planD [.s g.nm, .b g.dr, .l g.N, .l g.E, .l g.C, .i o.md, .i o.ns, .i o.rs, .i o.m, .i o.rd, .l (B.map encQ)] =
    if inE g o B = 0 then (match (arOf g o B).all with
      | some (S, T) => [Pn.d ⟨g, o, B, T, S⟩, .i 0]
      | none => [.p [], .i 2]) else [.p [], .i (inE g o B)] := by
  obtain ⟨nm, dr, N, E, C⟩ := g
  obtain ⟨md, ns, rs, m, rd⟩ := o
  simp only [planD, map_decQ]
  rfl
theorem rep_T (n : Nat) : List.replicate n [D.l []] = (List.replicate n ([] : List Tp)).map encTs := by
  rw [List.map_replicate]; rfl
theorem rep_S (n : Nat) : List.replicate n [D.i 0, .i 0] = (List.replicate n pz).map encP := by
  rw [List.map_replicate]; rfl
theorem m19 : Meets Try.prog 19 S19 (R 19) (F 19) := by
  refine meets_of_vt (pre := R) (Φ := F) mixed (sgAt_all (P := Try.prog) (pre := R) (Φ := F) (l := sg19) (List.forall_mem_cons.2 ⟨Meets.at (pre := R) (Φ := F) m48, List.forall_mem_cons.2 ⟨Meets.at (pre := R) (Φ := F) m49, List.forall_mem_cons.2 ⟨Meets.at (pre := R) (Φ := F) m17, (fun _ h => nomatch h)⟩⟩⟩)) Try.func19 b19 n19 (loops_n 1 k19 fun k hk => match k, hk with | 0, _ => loop_this lf19_0 loopM19_0) e19 fun ds hf _ => ?_
  obtain ⟨g, o, B, ds', rfl, h0, hm, _⟩ := fitsGO hf.flat
  obtain rfl := fits0 h0
  simp only [vt19, VT.ok, Nd.holds, X.outs, X.ds, X.d, Op1.ev, Op2.ev, takeD_zero, takeD_cons, List.cons_append, List.nil_append, List.getD_cons_zero, List.getD_cons_succ, D.int_i, D.bool_b, D.lst_l, Int.toNat_natCast, implies_true, true_and, F48, R48, F11900, R11900, F19, inD_eq, planD_eq]
  by_cases h : inE g o B = 0
  · obtain ⟨h1, h2, h3, _⟩ := inE_ok h
    obtain ⟨v1, v2⟩ := valid_len h1
    have hb : (!(inE g o B == 0)) = false := by simp [h]
    have e1 : ((g.C.length : Int) + 1).toNat = g.C.length + 1 := by omega
    have hc1 : ((g.C.length : Int) - 1) = ((g.C.length + 1 : Nat) : Int) - 2 := by omega
    simp (disch := omega) only [h, ↓reduceIte, dle_t, beq_t, w64', suc_nat, rep_T, rep_S]
    have hpre := prAr2_mk (.p []) (.i 0) ⟨g, o, B, (arOf g o B).T0, (arOf g o B).S0⟩ (arOf g o B).S0 (arOf g o B).T0 (g.C.length + 1) (Nat.le_refl _) ⟨v1, v2, h3, by simp [Ar.S0, arOf]⟩ rfl (by simp [Ar.T0, arOf]) h2
    have hlp := lpAr2_eq2 (.p []) (.i 0) ⟨g, o, B, (arOf g o B).T0, (arOf g o B).S0⟩ (arOf g o B).S0 (arOf g o B).T0 (g.C.length + 1)
    rw [← hc1] at hpre hlp
    have hlp' : lpAr2 [.p [], .i 0, .i (g.C.length : Int), .i ((g.C.length : Int) - 1), .i o.md, .i o.ns, .i o.rs, .i o.m, .i o.rd, .l ((List.replicate (g.C.length + 1) ([] : List Tp)).map encTs), .l ((List.replicate g.C.length pz).map encP), .s g.nm, .b g.dr, .l g.N, .l g.E, .l g.C, .i o.md, .i o.ns, .i o.rs, .i o.m, .i o.rd, .l (B.map encQ)] = arL (arOf g o B) (.p []) (.i 0) g.C.length (arOf g o B).S0 (arOf g o B).T0 := hlp
    rw [hlp']
    refine ⟨fun _ => trivial, fun _ => trivial, fun _ => trivial, fun _ => hpre, ?_⟩
    rcases arL_run (arOf g o B) (.p []) (.i 0) g.C.length (arOf g o B).S0 (arOf g o B).T0 with ⟨S', T', k1, k2⟩ | ⟨k1, c, x, y, k2⟩
    · have k1' : (arOf g o B).all = some (S', T') := k1
      rw [k2, k1']
      simp only [takeD_zero, takeD_cons, List.getD_cons_zero, List.getD_cons_succ, D.int_i, Bool.false_eq_true, if_false, show ((1 : Int) == 0) = false from rfl]
      rfl
    · have k1' : (arOf g o B).all = none := k1
      rw [k2, k1']
      simp only [takeD_zero, takeD_cons, List.getD_cons_zero, List.getD_cons_succ, D.int_i, if_true, show ((0 : Int) == 0) = true from rfl]
  · have hb : (!(inE g o B == 0)) = true := by simp [h]
    rw [if_pos hb, if_neg h]
theorem loopM12_0 : LoopMeets Try.prog F (R L12_0.key) L12_0 lb12_0 := by
  refine loop_meets (pre := R) mixed (sgAt_all (P := Try.prog) (pre := R) (Φ := F) (l := sg12) (List.forall_mem_cons.2 ⟨Meets.at (pre := R) (Φ := F) m19, (fun _ h => nomatch h)⟩)) (loops_n 0 lk12_0 fun k hk => by omega) L12_0 (fun ρ => ((ρ.getD 1 default).int - (ρ.getD 2 default).int).toNat) le12_0 fun ρ _ hq => ?_
  obtain ⟨S, j, acc, rfl, hj, h16, hacc⟩ : prSz ρ := hq
  by_cases hlt : j < S.length
  · have hd : S.drop j = S.getD j pz :: S.drop (j + 1) := drop_at pz S hlt
    simp (disch := omega) only [rt12_0, VT.ok, Nd.holds, X.ds, X.d, Op1.ev, Op2.ev, List.getD_cons_zero, List.getD_cons_succ, D.int_i, D.bool_b, D.lst_l, Int.toNat_natCast, List.length_map, implies_true, true_and, ↓reduceIte, dle_t, dlt_t, w64', rowPz, encP, snoc_le]
    refine round_next ⟨⟨S, j + 1, _, rfl, by omega, h16, ?_⟩, ?_, ?_⟩
    · rw [List.length_append]; simp only [List.length_singleton]; omega
    · show ((S.length : Int) - ((j + 1 : Nat) : Int)).toNat < ((S.length : Int) - (j : Int)).toNat
      omega
    · show lpSz [.l (S.map encP), .i (S.length : Int), .i ((j + 1 : Nat) : Int), .l (acc ++ [encZ (S.getD j pz)])] = lpSz [.l (S.map encP), .i (S.length : Int), .i (j : Int), .l acc]
      simp only [lpSz, Int.toNat_natCast, map_decP, List.length_map, hd, List.map_cons, List.append_assoc, List.singleton_append]
  · have hj : j = S.length := by omega
    subst hj
    simp (disch := omega) only [rt12_0, VT.ok, X.ds, X.d, Op2.ev, List.getD_cons_zero, List.getD_cons_succ, D.int_i, D.bool_b, Bool.false_eq_true, ↓reduceIte, dlt_f]
    refine round_exit (by omega) ?_
    show lpSz [.l (S.map encP), .i (S.length : Int), .i (S.length : Int), .l acc] = _
    simp only [lpSz, Int.toNat_natCast, map_decP, List.length_map, List.drop_length, List.map_nil, List.append_nil]
theorem run_len (a : Ar) : ∀ (k : Nat) (S S' : List Pt) (T T' : List (List Tp)), a.run k S T = some (S', T') → S'.length = S.length ∧ T'.length = T.length
  | 0, S, S', T, T', h => by
    unfold Ar.run at h
    split at h
    · simp only [Option.some.injEq, Prod.mk.injEq] at h
      obtain ⟨rfl, rfl⟩ := h
      exact ⟨rfl, List.length_set ..⟩
    · cases h
  | k + 1, S, S', T, T', h => by
    unfold Ar.run at h
    split at h
    · split at h
      · obtain ⟨h1, h2⟩ := run_len a k _ _ _ _ h
        exact ⟨h1.trans (List.length_set ..), h2.trans (List.length_set ..)⟩
      · cases h
    · cases h
theorem all_len {g : Gd} {o : Od} {B : List Bx} {S : List Pt} {T : List (List Tp)} (h : (arOf g o B).all = some (S, T)) : S.length = g.C.length ∧ T.length = g.C.length + 1 := by
  obtain ⟨h1, h2⟩ := run_len _ _ _ _ _ _ h
  rw [h1, h2]
  simp [Ar.S0, Ar.T0, arOf]
theorem szB_map (S : List Pt) : S.map encZ = (S.map szB).map encQ := by rw [List.map_map]; rfl
theorem m12 : Meets Try.prog 12 S12 (R 12) (F 12) := by
  refine meets_of_vt (pre := R) (Φ := F) mixed (sgAt_all (P := Try.prog) (pre := R) (Φ := F) (l := sg12) (List.forall_mem_cons.2 ⟨Meets.at (pre := R) (Φ := F) m19, (fun _ h => nomatch h)⟩)) Try.func12 b12 n12 (loops_n 1 k12 fun k hk => match k, hk with | 0, _ => loop_this lf12_0 loopM12_0) e12 fun ds hf _ => ?_
  obtain ⟨g, o, B, ds', rfl, h0, hm, _⟩ := fitsGO hf.flat
  obtain rfl := fits0 h0
  simp only [vt12, VT.ok, Nd.holds, X.outs, X.ds, X.d, Op1.ev, Op2.ev, List.cons_append, List.nil_append, List.getD_cons_zero, List.getD_cons_succ, D.int_i, D.bool_b, implies_true, true_and, F19, R19, F11200, R11200, F12, planD_eq, sizesD_eq]
  by_cases h : inE g o B = 0
  · obtain ⟨h1, h2, h3, _⟩ := inE_ok h
    obtain ⟨v1, v2⟩ := valid_len h1
    rw [if_pos h]
    cases ha : (arOf g o B).all with
    | none =>
      have hr : sizesR g o B = ([], 2) := by rw [sizesR, if_pos h, ha]
      rw [hr]; rfl
    | some r =>
      obtain ⟨S, T⟩ := r
      obtain ⟨l1, l2⟩ := all_len ha
      have hr : sizesR g o B = (S.map szB, 0) := by rw [sizesR, if_pos h, ha]
      have hpre : prSz [.l (S.map encP), .i (S.length : Int), .i 0, .l []] := ⟨S, 0, [], rfl, by omega, by omega, by simp⟩
      have hl : lpSz [.l (S.map encP), .i (S.length : Int), .i 0, .l []] = [.i 0, .i (S.length : Int), .l (S.map encZ)] := by
        simp only [lpSz, map_decP, List.length_map, Int.toNat_zero, List.drop_zero, List.nil_append]
      rw [hr]
      simp only [takeD_zero, takeD_cons, List.cons_append, List.nil_append, List.getD_cons_zero, List.getD_cons_succ, D.int_i, D.lst_l, List.length_map, Bool.false_eq_true, if_false, and_true, Pn.d, D.ptd_p, Pn.l, List.length_cons, List.length_nil, show (!((0 : Int) == 0)) = false from rfl, hl, szB_map]
      exact ⟨fun _ => rfl, fun _ => hpre⟩
  · have hb : (!(inE g o B == 0)) = true := by simp [h]
    have hr : sizesR g o B = ([], inE g o B) := by rw [sizesR, if_neg h]
    rw [if_neg h, hr]
    simp only [takeD_zero, takeD_cons, List.cons_append, List.nil_append, List.getD_cons_zero, List.getD_cons_succ, D.int_i, if_true, hb, if_true]
    rfl
end Go.Proofs.Ytindllmeeckfcaa.rv
namespace Go.Proofs.Ytindllmeeckfcaa.rv
set_option maxRecDepth 10000
open Go.RV
theorem shEq (q : Bx) (x y : Int) (h : smQ q) (hx : sm x) (hy : sm y) : fn21 [.i q.1, .i q.2.1, .i q.2.2.1, .i q.2.2.2, .i x, .i y] = [.i (shQ q x y).1, .i (shQ q x y).2.1, .i (shQ q x y).2.2.1, .i (shQ q x y).2.2.2] := fn21_eq q x y h hx hy
theorem putN_len (B : List Bx) (x y : Int) : ∀ (l : List Nat) (M : List Bx), (putN B l x y M).length = M.length
  | [], M => rfl
  | v :: l, M => by
    show (putN B l x y (M.set v _)).length = _
    rw [putN_len B x y l, List.length_set]
theorem loopMp10_0_1 : LoopMeets Try.prog F (R Lp10_0_1.key) Lp10_0_1 lbp10_0_1 := by
  refine loop_meets (pre := R) mixed (sgAt_all (P := Try.prog) (pre := R) (Φ := F) (l := sgp10_0) (List.forall_mem_cons.2 ⟨Meets.at (pre := R) (Φ := F) m21, List.forall_mem_cons.2 ⟨Meets.at (pre := R) (Φ := F) m22, List.forall_mem_cons.2 ⟨Meets.at (pre := R) (Φ := F) m23, (fun _ h => nomatch h)⟩⟩⟩)) (loops_n 0 lkp10_0_1 fun k hk => by omega) Lp10_0_1 (fun ρ => ((ρ.getD 1 default).int - (ρ.getD 2 default).int).toNat) lep10_0_1 fun ρ _ hq => ?_
  obtain ⟨l, j, B, M, q, r, rfl, hj, h64, hl, hM, hB, ⟨hq1, hq2⟩, hr⟩ : prPn ρ := hq
  have hr' := hr
  unfold smQ at hr'
  have hs1 : sm (q.1 - r.1) := by unfold sm at *; omega
  have hs2 : sm (q.2.1 - r.2.1) := by unfold sm at *; omega
  have w1 : IntKind.i64.wrap (q.1 - r.1) = q.1 - r.1 := by unfold sm at hs1; exact w64 (by omega)
  have w2 : IntKind.i64.wrap (q.2.1 - r.2.1) = q.2.1 - r.2.1 := by unfold sm at hs2; exact w64 (by omega)
  by_cases hlt : j < l.length
  · have hv : l.getD j 0 < B.length := hl _ (getD_memN hlt)
    have hd : l.drop j = l.getD j 0 :: l.drop (j + 1) := drop_at 0 l hlt
    have hb := shEq (B.getD (l.getD j 0) z4) _ _ (hB _ (getD_mem z4 hv)) hs1 hs2
    simp (disch := omega) only [rtp10_0_1, VT.ok, Nd.holds, X.outs, X.ds, X.d, Op1.ev, Op2.ev, takeD_zero, takeD_cons, List.cons_append, List.nil_append, List.getD_cons_zero, List.getD_cons_succ, D.int_i, D.bool_b, D.lst_l, Int.toNat_natCast, List.length_map, implies_true, true_and, F21, R21, ↓reduceIte, dle_t, dlt_t, w64', rowNn, encN, rowQz, encQ, w1, w2, hb, List.length_map, splQ0, setQ]
    refine round_next ⟨⟨l, j + 1, B, M.set (l.getD j 0) (shQ (B.getD (l.getD j 0) z4) (q.1 - r.1) (q.2.1 - r.2.1)), q, r, rfl, by omega, h64, hl, (List.length_set ..).trans hM, hB, ⟨hq1, hq2⟩, hr⟩, ?_, ?_⟩
    · show ((l.length : Int) - ((j + 1 : Nat) : Int)).toNat < ((l.length : Int) - (j : Int)).toNat
      omega
    · show lpPn [.l (l.map encN), .i (l.length : Int), .i ((j + 1 : Nat) : Int), .l (B.map encQ), .l ((M.set (l.getD j 0) (shQ (B.getD (l.getD j 0) z4) (q.1 - r.1) (q.2.1 - r.2.1))).map encQ), .i q.1, .i q.2.1, .i q.2.2.1, .i q.2.2.2, .i r.1, .i r.2.1, .i r.2.2.1, .i r.2.2.2] = lpPn [.l (l.map encN), .i (l.length : Int), .i (j : Int), .l (B.map encQ), .l (M.map encQ), .i q.1, .i q.2.1, .i q.2.2.1, .i q.2.2.2, .i r.1, .i r.2.1, .i r.2.2.1, .i r.2.2.2]
      simp only [lpPn, Int.toNat_natCast, map_decN, map_decQ, List.length_map, hd, putN, List.foldl_cons]
  · have hj : j = l.length := by omega
    subst hj
    simp (disch := omega) only [rtp10_0_1, VT.ok, X.ds, X.d, Op2.ev, List.getD_cons_zero, List.getD_cons_succ, D.int_i, D.bool_b, Bool.false_eq_true, ↓reduceIte, dlt_f]
    refine round_exit (by omega) ?_
    show lpPn [.l (l.map encN), .i (l.length : Int), .i (l.length : Int), .l (B.map encQ), .l (M.map encQ), .i q.1, .i q.2.1, .i q.2.2.1, .i q.2.2.2, .i r.1, .i r.2.1, .i r.2.2.1, .i r.2.2.2] = _
    simp only [lpPn, Int.toNat_natCast, map_decN, map_decQ, List.length_map, List.drop_length, putN, List.foldl_nil]
theorem rowTz {l : List Tp} {i : Nat} (h : i < l.length) : (l.map encT).getD i [] = encT (l.getD i (0, z4)) := row_get (0, z4) h
theorem putTs_cons (B : List Bx) (own : List Nat) (x y : Int) (t : Tp) (l : List Tp) (s : Pl) : putTs B own x y (t :: l) s = putTs B own x y l (putT B own x y s t) := rfl
theorem lpPt_eq (c x y : Int) (l : List Tp) (_n : D) (j : Nat) (p : Pn) (M K : List Bx) : lpPt [.i c, .i x, .i y, .l (l.map encT), .i (l.length : Int), .i (j : Int), .l (p.B.map encQ), p.d, .l (M.map encQ), .l (K.map encQ)] = [.i 0, .i (l.length : Int), .l ((putTs p.B (ownL p.g.N c) x y (l.drop j) (M, K)).1.map encQ), .l ((putTs p.B (ownL p.g.N c) x y (l.drop j) (M, K)).2.map encQ)] := by
  have e : cL p.d.ptd 2 = p.g.N := rfl
  simp only [lpPt, map_decQ, map_decT, Int.toNat_natCast, List.length_map, e]
set_option maxHeartbeats 400000 in
theorem loopMp10_0_0 : LoopMeets Try.prog F (R Lp10_0_0.key) Lp10_0_0 lbp10_0_0 := by
  refine loop_meets (pre := R) mixed (sgAt_all (P := Try.prog) (pre := R) (Φ := F) (l := sgp10_0) (List.forall_mem_cons.2 ⟨Meets.at (pre := R) (Φ := F) m21, List.forall_mem_cons.2 ⟨Meets.at (pre := R) (Φ := F) m22, List.forall_mem_cons.2 ⟨Meets.at (pre := R) (Φ := F) m23, (fun _ h => nomatch h)⟩⟩⟩)) (loops_n 1 lkp10_0_0 fun k hk => match k, hk with | 0, _ => by rw [lip10_0_0_0]; exact loop_this lfp10_0_1 loopMp10_0_1) Lp10_0_0 (fun ρ => ((ρ.getD 4 default).int - (ρ.getD 5 default).int).toNat) lep10_0_0 fun ρ _ hq => ?_
  obtain ⟨c, x, y, l, j, p, M, K, rfl, hj, h64, hsm, hx, hy, hl, hM, hK⟩ : prPt ρ := hq
  obtain ⟨⟨f1, f2, f3, f4⟩, hB⟩ := hsm
  have hlp := lpPt_eq c x y l (.i 0) j p M K
  by_cases hlt : j < l.length
  · have hd : l.drop j = l.getD j (0, z4) :: l.drop (j + 1) := drop_at (0, z4) l hlt
    obtain ⟨ht1, ht2, ht3⟩ := hl _ (getD_mem (0, z4) hlt)
    have hsx : sm x := by unfold sm; omega
    have hsy : sm y := by unfold sm; omega
    have hb := shEq (l.getD j (0, z4)).2 x y ht1 hsx hsy
    have hown : ownCP [p.d, .i c] := ⟨p, c, rfl, f1, f2, f3, f4⟩
    have hownl : (ownL p.g.N c).length ≤ p.g.N.length := pick_len _ _
    have hblk : blkCP [p.d, .l ((ownL p.g.N c).map encN)] := ⟨p, _, rfl, by omega, own_lt (by omega)⟩
    have hbb : smQ (blkB p.B (ownL p.g.N c)) := smQ_of (uni_ok _)
    rw [hd, putTs_cons] at hlp
    generalize htt : l.getD j (0, z4) = t at *
    obtain ⟨k, q⟩ := t
    have ht1' : smQ q := ht1
    unfold smQ at ht1'
    simp (disch := omega) only [rtp10_0_0, VT.ok, Nd.holds, X.outs, X.ds, X.d, Op1.ev, Op2.ev, takeD_zero, takeD_cons, List.cons_append, List.nil_append, List.getD_cons_zero, List.getD_cons_succ, D.int_i, D.bool_b, D.lst_l, Int.toNat_natCast, List.length_map, implies_true, true_and, takeD1_0, F21, R21, F22, R22, F23, R23, F12050, R12050, ↓reduceIte, dle_t, dlt_t, w64', rowTz, htt, encT, encQ, hb]
    by_cases hk : 0 ≤ k
    · have hkc : k.toNat < K.length := by have : k < (p.g.C.length : Int) := ht3; omega
      have hkc2 : k < (K.length : Int) := by have : k < (p.g.C.length : Int) := ht3; omega
      rw [if_pos (decide_eq_true hk)]
      simp (disch := omega) only [rowQz, encQ, splQ0, setQ]
      refine round_step [.i c, .i x, .i y, .l (l.map encT), .i (l.length : Int), .i ((j + 1 : Nat) : Int), .l (p.B.map encQ), p.d, .l (M.map encQ), .l ((K.set k.toNat (shQ q x y)).map encQ)] rfl ⟨c, x, y, l, j + 1, p, M, _, rfl, by omega, h64, ⟨⟨f1, f2, f3, f4⟩, hB⟩, hx, hy, hl, hM, (List.length_set ..).trans hK⟩ ?_ ?_
      · show ((l.length : Int) - ((j + 1 : Nat) : Int)).toNat < ((l.length : Int) - (j : Int)).toNat
        omega
      · have e1 := lpPt_eq c x y l (.i 0) (j + 1) p M (K.set k.toNat (shQ q x y))
        have e2 : putT p.B (ownL p.g.N c) x y (M, K) (k, q) = (M, K.set k.toNat (shQ q x y)) := by rw [putT, if_pos hk]
        rw [e2] at hlp
        rw [show F Lp10_0_0.key = lpPt from rfl]
        exact e1.trans hlp.symm
    · rw [if_neg (by rw [decide_eq_false hk]; decide)]
      have hin : lpPn [.l ((ownL p.g.N c).map encN), .i (((ownL p.g.N c).map encN).length : Int), .i 0, .l (p.B.map encQ), .l (M.map encQ), .i (shQ q x y).1, .i (shQ q x y).2.1, .i (shQ q x y).2.2.1, .i (shQ q x y).2.2.2, .i (blkB p.B (ownL p.g.N c)).1, .i (blkB p.B (ownL p.g.N c)).2.1, .i (blkB p.B (ownL p.g.N c)).2.2.1, .i (blkB p.B (ownL p.g.N c)).2.2.2] = [.i 0, .i (((ownL p.g.N c).map encN).length : Int), .l ((putN p.B (ownL p.g.N c) ((shQ q x y).1 - (blkB p.B (ownL p.g.N c)).1) ((shQ q x y).2.1 - (blkB p.B (ownL p.g.N c)).2.1) M).map encQ)] := by
        simp only [lpPn, map_decN, map_decQ, Int.toNat_zero, List.drop_zero]
      have hpn : prPn [.l ((ownL p.g.N c).map encN), .i (((ownL p.g.N c).map encN).length : Int), .i 0, .l (p.B.map encQ), .l (M.map encQ), .i (shQ q x y).1, .i (shQ q x y).2.1, .i (shQ q x y).2.2.1, .i (shQ q x y).2.2.2, .i (blkB p.B (ownL p.g.N c)).1, .i (blkB p.B (ownL p.g.N c)).2.1, .i (blkB p.B (ownL p.g.N c)).2.2.1, .i (blkB p.B (ownL p.g.N c)).2.2.2] :=
        ⟨ownL p.g.N c, 0, p.B, M, shQ q x y, blkB p.B (ownL p.g.N c), by rw [List.length_map]; rfl, by omega, by omega, own_lt (by omega), by omega, hB, by unfold shQ; simp only; omega, hbb⟩
      rw [List.length_map] at hin hpn
      simp only [takeD_zero, takeD_cons, List.cons_append, List.nil_append, List.getD_cons_zero, List.getD_cons_succ, D.lst_l, List.length_map, ownC_eq, blkC_eq, List.length_map, hin]
      refine ⟨fun _ => hown, fun _ => hblk, fun _ => hpn, ?_⟩
      refine round_step [.i c, .i x, .i y, .l (l.map encT), .i (l.length : Int), .i ((j + 1 : Nat) : Int), .l (p.B.map encQ), p.d, .l ((putN p.B (ownL p.g.N c) ((shQ q x y).1 - (blkB p.B (ownL p.g.N c)).1) ((shQ q x y).2.1 - (blkB p.B (ownL p.g.N c)).2.1) M).map encQ), .l (K.map encQ)] rfl ⟨c, x, y, l, j + 1, p, _, K, rfl, by omega, h64, ⟨⟨f1, f2, f3, f4⟩, hB⟩, hx, hy, hl, (putN_len ..).trans hM, hK⟩ ?_ ?_
      · show ((l.length : Int) - ((j + 1 : Nat) : Int)).toNat < ((l.length : Int) - (j : Int)).toNat
        omega
      · have e1 := lpPt_eq c x y l (.i 0) (j + 1) p (putN p.B (ownL p.g.N c) ((shQ q x y).1 - (blkB p.B (ownL p.g.N c)).1) ((shQ q x y).2.1 - (blkB p.B (ownL p.g.N c)).2.1) M) K
        have e2 : putT p.B (ownL p.g.N c) x y (M, K) (k, q) = (putN p.B (ownL p.g.N c) ((shQ q x y).1 - (blkB p.B (ownL p.g.N c)).1) ((shQ q x y).2.1 - (blkB p.B (ownL p.g.N c)).2.1) M, K) := by rw [putT, if_neg hk]
        rw [e2] at hlp
        rw [show F Lp10_0_0.key = lpPt from rfl]
        exact e1.trans hlp.symm
  · have hj : j = l.length := by omega
    subst hj
    simp (disch := omega) only [rtp10_0_0, VT.ok, X.ds, X.d, Op2.ev, List.getD_cons_zero, List.getD_cons_succ, D.int_i, D.bool_b, Bool.false_eq_true, ↓reduceIte, dlt_f]
    refine round_exit (by omega) ?_
    rw [show F Lp10_0_0.key = lpPt from rfl]
    refine hlp.trans ?_
    rw [List.drop_length]
    rfl
theorem pcPu_eq (c x y : Int) (l : List Tp) (p : Pn) (M K : List Bx) : pcPu [.l (p.B.map encQ), p.d, .l (M.map encQ), .l (K.map encQ), .i c, .l (l.map encT), .i x, .i y] = [.i 0, .l ((putTs p.B (ownL p.g.N c) x y l (M, K)).1.map encQ), .l ((putTs p.B (ownL p.g.N c) x y l (M, K)).2.map encQ)] := by
  have e : cL p.d.ptd 2 = p.g.N := rfl
  simp only [pcPu, map_decQ, map_decT, e]
theorem mp10_0 : ProcMeets Try.prog 20 Sp10_20 P10_0 4 (R P10_0.key) (F P10_0.key) := by
  refine proc_meets mixed (sgAt_all (P := Try.prog) (pre := R) (Φ := F) (l := sgp10_0) (List.forall_mem_cons.2 ⟨Meets.at (pre := R) (Φ := F) m21, List.forall_mem_cons.2 ⟨Meets.at (pre := R) (Φ := F) m22, List.forall_mem_cons.2 ⟨Meets.at (pre := R) (Φ := F) m23, (fun _ h => nomatch h)⟩⟩⟩)) Try.func20 bp10_0 np10_0 (loops_n 2 kp10_0 fun k hk => match k, hk with | 0, _ => loop_this lfp10_0_0 loopMp10_0_0 | 1, _ => loop_this lfp10_0_1 loopMp10_0_1) pe10_0 pp10_0 pl10_0 (by decide) fun ρ _ hq => ?_
  obtain ⟨c, x, y, l, p, M, K, rfl, h64, hsm, hx, hy, hl, hM, hK⟩ : prPu ρ := hq
  have hpre : prPt [.i c, .i x, .i y, .l (l.map encT), .i (l.length : Int), .i 0, .l (p.B.map encQ), p.d, .l (M.map encQ), .l (K.map encQ)] := ⟨c, x, y, l, 0, p, M, K, rfl, by omega, h64, hsm, hx, hy, hl, hM, hK⟩
  have hlp := lpPt_eq c x y l (.i 0) 0 p M K
  rw [List.drop_zero] at hlp
  have hlp' : lpPt [.i c, .i x, .i y, .l (l.map encT), .i (l.length : Int), .i 0, .l (p.B.map encQ), p.d, .l (M.map encQ), .l (K.map encQ)] = _ := hlp
  simp only [pv10_0, VT.ok, Nd.holds, X.outs, X.ds, X.d, Op1.ev, takeD_zero, takeD_cons, List.cons_append, List.nil_append, List.getD_cons_zero, List.getD_cons_succ, D.bool_b, D.lst_l, List.length_map, F12051, R12051, hlp']
  exact ⟨fun _ => hpre, (pcPu_eq c x y l p M K).symm⟩
end Go.Proofs.Ytindllmeeckfcaa.rv
