/-
  Graphs: names' places, ports, nodes.
-/
import Derived.Test.YtjdhicmkkmfcgaaRvGr4
namespace Go.Proofs.Ytjdhicmkkmfcgaa.rv
open Go.RV

/-! ### find -/
theorem m11 : Meets Try.prog 11 S11 (R 11) (F 11) := by
  refine meets_of_vt (pre := R) (Φ := F) mixed (sgAt_all (P := Try.prog) (pre := R) (Φ := F) (l := sg11) (List.forall_mem_cons.2 ⟨Meets.at (pre := R) (Φ := F) m35, (fun _ h => nomatch h)⟩)) Try.func11 b11 n11 (loops_n 0 k11 fun k hk => by omega) e11 fun ds hf _ => ?_
  obtain ⟨g, ds', rfl, h5, _⟩ := fitsG hf.flat
  obtain ⟨x, rfl, hx⟩ := fits1 h5
  obtain ⟨nm, rfl, _⟩ := wf_str hx
  simp only [vt11, VT.ok, Nd.holds, X.outs, X.ds, X.d, List.cons_append, List.nil_append, List.getD_cons_zero, List.getD_cons_succ, D.bool_b, takeD1_0, F35, R35, F11]
  exact ⟨fun _ i _ => ⟨[.s nm], cellsN 6 (el g.N i), rfl, rfl, cellsN_length 6 _⟩, rfl⟩
theorem loopM12_0 : LoopMeets Try.prog F (R L12_0.key) L12_0 lb12_0 := by
  refine loop_meets (pre := R) mixed (sgAt_all (P := Try.prog) (pre := R) (Φ := F) (l := sg12) ((fun _ h => nomatch h))) (loops_n 0 lk12_0 fun k hk => by omega) L12_0 (fun ρ => (((ρ.getD 5 default).lst.length : Int) - (ρ.getD 2 default).int).toNat) le12_0 fun ρ _ hq => ?_
  obtain ⟨nm, v, g, j, rfl, hj, hm⟩ : prFind ρ := hq
  rw [maxLen_val] at hm
  by_cases hlt : j < g.N.length
  · simp (disch := omega) only [rt12_0, VT.ok, Nd.holds, X.ds, X.d, Op1.ev, Op2.ev, List.getD_cons_zero, List.getD_cons_succ, D.int_i, D.bool_b, D.lst_l, D.str_s, Int.toNat_natCast, implies_true, true_and, ↓reduceIte, dle_t, dlt_t, w64']
    show if nmP g.N nm j = true then _ else _
    cases hb : nmP g.N nm j
    · simp only [Bool.false_eq_true, if_false]
      refine round_next ⟨⟨nm, v, g, j + 1, rfl, by omega, hm⟩, ?_, ?_⟩
      · show ((g.N.length : Int) - ((j + 1 : Nat) : Int)).toNat < ((g.N.length : Int) - (j : Int)).toNat
        omega
      · show lpFind [.s nm, v, .i ((j + 1 : Nat) : Int), .s g.nm, .b g.dr, .l g.N, .l g.E, .l g.C] = lpFind [.s nm, v, .i (j : Int), .s g.nm, .b g.dr, .l g.N, .l g.E, .l g.C]
        simp only [lpFind, Int.toNat_natCast]
        exact scan_next hlt hb
    · simp only [if_true]
      refine round_exit (by omega) ?_
      show lpFind [.s nm, v, .i (j : Int), .s g.nm, .b g.dr, .l g.N, .l g.E, .l g.C] = _
      simp only [lpFind, Int.toNat_natCast]
      exact scan_hit hlt hb
  · have hj' : j = g.N.length := by omega
    subst hj'
    simp (disch := omega) only [rt12_0, VT.ok, X.ds, X.d, Op1.ev, Op2.ev, List.getD_cons_zero, List.getD_cons_succ, D.int_i, D.bool_b, D.lst_l, Bool.false_eq_true, ↓reduceIte, dlt_f]
    refine round_exit (by omega) ?_
    show lpFind [.s nm, v, .i (g.N.length : Int), .s g.nm, .b g.dr, .l g.N, .l g.E, .l g.C] = _
    simp only [lpFind, Int.toNat_natCast]
    exact scan_end
theorem m12 : Meets Try.prog 12 S12 (R 12) (F 12) := by
  refine meets_of_vt (pre := R) (Φ := F) mixed (sgAt_all (P := Try.prog) (pre := R) (Φ := F) (l := sg12) ((fun _ h => nomatch h))) Try.func12 b12 n12 (loops_n 1 k12 fun k hk => match k, hk with | 0, _ => loop_this lf12_0 loopM12_0) e12 fun ds hf _ => ?_
  obtain ⟨g, ds', rfl, h5, _, ⟨hm, _⟩, _⟩ := fitsG hf.flat
  obtain ⟨x, rfl, hx⟩ := fits1 h5
  obtain ⟨nm, rfl, _⟩ := wf_str hx
  have hpre : prFind [.s nm, .i 0, .i 0, .s g.nm, .b g.dr, .l g.N, .l g.E, .l g.C] := ⟨nm, _, g, 0, rfl, by omega, hm⟩
  simp only [vt12, VT.ok, Nd.holds, X.outs, X.ds, X.d, Op2.ev, List.cons_append, List.nil_append, List.getD_cons_zero, List.getD_cons_succ, D.int_i, D.bool_b, F11200, R11200, F12]
  refine ⟨fun _ => hpre, ?_⟩
  simp only [lpFind, findD, find, Int.toNat_zero, Nat.sub_zero, scan_fs, ixI, cL, cS, List.getD_cons_zero, List.getD_cons_succ, D.lst_l, D.str_s]
  split <;> rfl
theorem find_le {N : List (List D)} {i : Nat} (h : i < N.length) : 0 ≤ find N (cS (el N i) 0) ∧ find N (cS (el N i) 0) ≤ i := by
  have h1 : fs (nmP N (cS (el N i) 0)) N.length ≤ i := by
    rcases Nat.lt_or_ge i (fs (nmP N (cS (el N i) 0)) N.length) with h2 | h2
    · have := fs_min h2
      simp at this
    · exact h2
  unfold find ixI
  rw [if_pos (by omega)]
  omega

/-! ### ports -/
theorem sub0 (xs : List (List D)) (j : Nat) : (xs.take (j : Int).toNat).drop (Int.toNat 0) = xs.take j := by simp
theorem el_take {xs : List (List D)} {i j : Nat} (h : i < j) : el (xs.take j) i = el xs i := by
  simp only [el, List.getD, List.getElem?_take, if_pos h]
theorem any_take {xs : List (List D)} {nm : ByteArray} {j : Nat} (h : j ≤ xs.length) : anyN (nmP (xs.take j) nm) (xs.take j).length = anyN (nmP xs nm) j := by
  rw [List.length_take, Nat.min_eq_left h]
  exact anyN_congr fun k hk => by simp only [nmP, el_take hk]
theorem loopM51_0 : LoopMeets Try.prog F (R L51_0.key) L51_0 lb51_0 := by
  refine loop_meets (pre := R) mixed (sgAt_all (P := Try.prog) (pre := R) (Φ := F) (l := sg51) (List.forall_mem_cons.2 ⟨Meets.at (pre := R) (Φ := F) m27, List.forall_mem_cons.2 ⟨Meets.at (pre := R) (Φ := F) m62, (fun _ h => nomatch h)⟩⟩)) (loops_n 0 lk51_0 fun k hk => by omega) L51_0 (fun ρ => ((ρ.getD 3 default).int - (ρ.getD 4 default).int).toNat) le51_0 fun ρ _ hq => ?_
  obtain ⟨xs, v, j, rfl, hj, hm⟩ : prPorts ρ := hq
  rw [maxLen_val] at hm
  by_cases hlt : j < xs.length
  · have hN : portE xs j = 0 → RoundOk F (R L51_0.key) (fun ρ => ((ρ.getD 3 default).int - (ρ.getD 4 default).int).toNat) L51_0 [.l xs, v, .l xs, .i (xs.length : Int), .i (j : Int)] [.i (-1), v, .i ((j + 1 : Nat) : Int)] := fun h0 => by
      refine round_next ⟨⟨xs, v, j + 1, rfl, by omega, hm⟩, ?_, ?_⟩
      · show ((xs.length : Int) - ((j + 1 : Nat) : Int)).toNat < ((xs.length : Int) - (j : Int)).toNat
        omega
      · show lpPorts [.l xs, v, .l xs, .i (xs.length : Int), .i ((j + 1 : Nat) : Int)] = lpPorts [.l xs, v, .l xs, .i (xs.length : Int), .i (j : Int)]
        simp only [lpPorts, errLp, Int.toNat_natCast]
        exact scan_next hlt (by simp only [er, h0]; rfl)
    have hX : ∀ z : Int, portE xs j = z → z ≠ 0 → RoundOk F (R L51_0.key) (fun ρ => ((ρ.getD 3 default).int - (ρ.getD 4 default).int).toNat) L51_0 [.l xs, v, .l xs, .i (xs.length : Int), .i (j : Int)] [.i 0, .i z, .i (j : Int)] := fun z h0 hz => by
      refine round_exit (by omega) ?_
      show lpPorts [.l xs, v, .l xs, .i (xs.length : Int), .i (j : Int)] = _
      simp only [lpPorts, errLp, Int.toNat_natCast]
      rw [← h0]
      exact scan_hit hlt (by simp only [er, h0]; simpa using hz)
    simp (disch := omega) only [rt51_0, VT.ok, Nd.holds, X.outs, X.ds, X.d, Op1.ev, Op2.ev, takeD_zero, takeD_cons, List.cons_append, List.nil_append, List.getD_cons_zero, List.getD_cons_succ, D.int_i, D.bool_b, D.lst_l, ite_b, ite_or, Int.toNat_natCast, implies_true, true_and, takeD1_0, F27, R27, F62, R62, ↓reduceIte, dle_t, dlt_t, w64', nameD, cS]
    cases h1 : isName (cS (el xs j) 0)
    · simp only [Bool.not_false, if_true]
      exact hX 5 (by simp only [portE, h1, Bool.false_eq_true, if_false]) (by omega)
    · simp only [Bool.not_true, Bool.false_eq_true, if_false]
      refine ⟨fun _ i _ => ⟨_, cellsN 2 _, rfl, rfl, cellsN_length 2 _⟩, ?_⟩
      show if anyN (nmP (xs.take j) (cS (el xs j) 0)) (xs.take j).length = true then _ else _
      rw [any_take hj]
      cases h2 : anyN (nmP xs (cS (el xs j) 0)) j
      · simp only [Bool.false_eq_true, if_false]
        by_cases h3 : cI (el xs j) 1 < 0 ∨ 3 < cI (el xs j) 1
        · rw [if_pos (by exact dor_t h3)]
          exact hX 7 (by simp only [portE, h1, h2, if_true, Bool.false_eq_true, if_false, if_pos h3]) (by omega)
        · rw [if_neg (by exact dor_f h3)]
          exact hN (by simp only [portE, h1, h2, if_true, Bool.false_eq_true, if_false, if_neg h3])
      · simp only [if_true]
        exact hX 6 (by simp only [portE, h1, h2, if_true]) (by omega)
  · have hj' : j = xs.length := by omega
    subst hj'
    simp (disch := omega) only [rt51_0, VT.ok, X.ds, X.d, Op2.ev, List.getD_cons_zero, List.getD_cons_succ, D.int_i, D.bool_b, Bool.false_eq_true, ↓reduceIte, dlt_f]
    refine round_exit (by omega) ?_
    show lpPorts [.l xs, v, .l xs, .i (xs.length : Int), .i (xs.length : Int)] = _
    simp only [lpPorts, errLp, Int.toNat_natCast]
    exact scan_end
theorem m51 : Meets Try.prog 51 S51 (R 51) (F 51) := by
  refine meets_of_vt (pre := R) (Φ := F) mixed (sgAt_all (P := Try.prog) (pre := R) (Φ := F) (l := sg51) (List.forall_mem_cons.2 ⟨Meets.at (pre := R) (Φ := F) m27, List.forall_mem_cons.2 ⟨Meets.at (pre := R) (Φ := F) m62, (fun _ h => nomatch h)⟩⟩)) Try.func51 b51 n51 (loops_n 1 k51 fun k hk => match k, hk with | 0, _ => loop_this lf51_0 loopM51_0) e51 fun ds hf _ => ?_
  obtain ⟨x, rfl, hx⟩ := fits1 hf.flat
  obtain ⟨xs, rfl, hm, _⟩ := wf_sl hx
  have hpre : prPorts [.l xs, .i 0, .l xs, .i (xs.length : Int), .i 0] := ⟨xs, _, 0, rfl, by omega, hm⟩
  by_cases h : 8 < (xs.length : Int)
  · simp (disch := omega) only [vt51, VT.ok, X.ds, X.d, Op1.ev, Op2.ev, List.getD_cons_zero, D.int_i, D.bool_b, D.lst_l, F51, ↓reduceIte, dlt_t, ports8D, ports8, cL, if_pos h]
  · simp (disch := omega) only [vt51, VT.ok, Nd.holds, X.outs, X.ds, X.d, Op1.ev, Op2.ev, List.cons_append, List.nil_append, List.getD_cons_zero, List.getD_cons_succ, D.int_i, D.bool_b, D.lst_l, Bool.false_eq_true, F15100, R15100, F51, ↓reduceIte, dlt_f, ports8D, ports8, cL, if_neg h]
    refine ⟨fun _ => hpre, ?_⟩
    simp only [lpPorts, Int.toNat_zero, portsE]
    rcases errLp_two (portE xs) (.i 0) xs.length with ⟨h1, h2⟩ | ⟨h1, _, h2⟩ <;> simp (disch := omega) only [h1, h2, takeD_zero, takeD_cons, List.getD_cons_zero, List.getD_cons_succ, D.int_i, Bool.false_eq_true, ↓reduceIte, beq_t, beq_f]
theorem loopM57_1 : LoopMeets Try.prog F (R L57_1.key) L57_1 lb57_1 := by
  refine loop_meets (pre := R) mixed (sgAt_all (P := Try.prog) (pre := R) (Φ := F) (l := sg57) (List.forall_mem_cons.2 ⟨Meets.at (pre := R) (Φ := F) m31, (fun _ h => nomatch h)⟩)) (loops_n 0 lk57_1 fun k hk => by omega) L57_1 (fun ρ => ((ρ.getD 2 default).int - (ρ.getD 3 default).int).toNat) le57_1 fun ρ _ hq => ?_
  obtain ⟨xs, v, i, j, rfl, hj, hi, hm⟩ : prPortsI ρ := hq
  rw [maxLen_val] at hm
  by_cases hlt : j < i
  · simp (disch := omega) only [rt57_1, VT.ok, Nd.holds, X.ds, X.d, Op1.ev, Op2.ev, List.getD_cons_zero, List.getD_cons_succ, D.int_i, D.bool_b, D.lst_l, Int.toNat_natCast, implies_true, true_and, ↓reduceIte, dle_t, dlt_t, w64']
    show if nmP xs (cS (el xs i) 0) j = true then _ else _
    cases hb : nmP xs (cS (el xs i) 0) j
    · simp only [Bool.false_eq_true, if_false]
      refine round_next ⟨⟨xs, v, i, j + 1, rfl, by omega, hi, hm⟩, ?_, ?_⟩
      · show ((i : Int) - ((j + 1 : Nat) : Int)).toNat < ((i : Int) - (j : Int)).toNat
        omega
      · show lpPortsI [.l xs, v, .i (i : Int), .i ((j + 1 : Nat) : Int)] = lpPortsI [.l xs, v, .i (i : Int), .i (j : Int)]
        simp only [lpPortsI, Int.toNat_natCast]
        exact scan_next hlt hb
    · simp only [if_true]
      refine round_exit (by omega) ?_
      show lpPortsI [.l xs, v, .i (i : Int), .i (j : Int)] = _
      simp only [lpPortsI, Int.toNat_natCast]
      exact scan_hit hlt hb
  · have hj' : j = i := by omega
    subst hj'
    simp (disch := omega) only [rt57_1, VT.ok, X.ds, X.d, Op2.ev, List.getD_cons_zero, List.getD_cons_succ, D.int_i, D.bool_b, Bool.false_eq_true, ↓reduceIte, dlt_f]
    refine round_exit (by omega) ?_
    show lpPortsI [.l xs, v, .i (j : Int), .i (j : Int)] = _
    simp only [lpPortsI, Int.toNat_natCast]
    exact scan_end
theorem loopM57_0 : LoopMeets Try.prog F (R L57_0.key) L57_0 lb57_0 := by
  refine loop_meets (pre := R) mixed (sgAt_all (P := Try.prog) (pre := R) (Φ := F) (l := sg57) (List.forall_mem_cons.2 ⟨Meets.at (pre := R) (Φ := F) m31, (fun _ h => nomatch h)⟩)) (loops_n 1 lk57_0 fun k hk => match k, hk with | 0, _ => by rw [li57_0_0]; exact loop_this lf57_1 loopM57_1) L57_0 (fun ρ => (((ρ.getD 0 default).lst.length : Int) - (ρ.getD 2 default).int).toNat) le57_0 fun ρ _ hq => ?_
  obtain ⟨xs, v, j, rfl, hj, hm⟩ : prPortsR ρ := hq
  rw [maxLen_val] at hm
  by_cases hlt : j < xs.length
  · have hN : portE xs j = 0 → RoundOk F (R L57_0.key) (fun ρ => (((ρ.getD 0 default).lst.length : Int) - (ρ.getD 2 default).int).toNat) L57_0 [.l xs, v, .i (j : Int)] [.i (-1), v, .i ((j + 1 : Nat) : Int)] := fun h0 => by
      refine round_next ⟨⟨xs, v, j + 1, rfl, by omega, hm⟩, ?_, ?_⟩
      · show ((xs.length : Int) - ((j + 1 : Nat) : Int)).toNat < ((xs.length : Int) - (j : Int)).toNat
        omega
      · show lpPortsR [.l xs, v, .i ((j + 1 : Nat) : Int)] = lpPortsR [.l xs, v, .i (j : Int)]
        simp only [lpPortsR, errLp, Int.toNat_natCast]
        exact scan_next hlt (by simp only [er, h0]; rfl)
    have hX : ∀ z : Int, portE xs j = z → z ≠ 0 → RoundOk F (R L57_0.key) (fun ρ => (((ρ.getD 0 default).lst.length : Int) - (ρ.getD 2 default).int).toNat) L57_0 [.l xs, v, .i (j : Int)] [.i 0, .i z, .i (j : Int)] := fun z h0 hz => by
      refine round_exit (by omega) ?_
      show lpPortsR [.l xs, v, .i (j : Int)] = _
      simp only [lpPortsR, errLp, Int.toNat_natCast]
      rw [← h0]
      exact scan_hit hlt (by simp only [er, h0]; simpa using hz)
    have hpre : prPortsI [.l xs, v, .i (j : Int), .i 0] := ⟨xs, v, j, 0, rfl, by omega, hlt, by rw [maxLen_val]; omega⟩
    simp (disch := omega) only [rt57_0, VT.ok, Nd.holds, X.outs, X.ds, X.d, Op1.ev, Op2.ev, takeD_zero, takeD_cons, List.cons_append, List.nil_append, List.getD_cons_zero, List.getD_cons_succ, D.int_i, D.bool_b, D.lst_l, ite_b, ite_or, Int.toNat_natCast, implies_true, true_and, F31, R31, F15700, R15700, ↓reduceIte, dle_t, dlt_t, w64', nameD, cS, lpPortsI, Int.toNat_natCast, Int.toNat_zero, Nat.sub_zero]
    cases h1 : isName (cS (el xs j) 0)
    · simp only [Bool.not_false, if_true]
      exact hX 5 (by simp only [portE, h1, Bool.false_eq_true, if_false]) (by omega)
    · simp only [Bool.not_true, Bool.false_eq_true, if_false]
      refine ⟨fun _ => hpre, ?_⟩
      rcases scan_two (p := nmP xs (cS (el xs j) 0)) j with ⟨h2, k, _, _, _, h⟩ | ⟨h2, h⟩
      · simp only [h, takeD_zero, takeD_cons, List.getD_cons_zero, List.getD_cons_succ, D.int_i, ↓reduceIte, beq_t]
        exact hX 6 (by simp only [portE, h1, h2, if_true]) (by omega)
      · simp (disch := omega) only [h, takeD_zero, takeD_cons, List.getD_cons_zero, List.getD_cons_succ, D.int_i, Bool.false_eq_true, ↓reduceIte, beq_f]
        by_cases h3 : cI (el xs j) 1 < 0 ∨ 3 < cI (el xs j) 1
        · rw [if_pos (by exact dor_t h3)]
          exact hX 7 (by simp only [portE, h1, h2, if_true, Bool.false_eq_true, if_false, if_pos h3]) (by omega)
        · rw [if_neg (by exact dor_f h3)]
          exact hN (by simp only [portE, h1, h2, if_true, Bool.false_eq_true, if_false, if_neg h3])
  · have hj' : j = xs.length := by omega
    subst hj'
    simp (disch := omega) only [rt57_0, VT.ok, X.ds, X.d, Op1.ev, Op2.ev, List.getD_cons_zero, List.getD_cons_succ, D.int_i, D.bool_b, D.lst_l, Bool.false_eq_true, ↓reduceIte, dlt_f]
    refine round_exit (by omega) ?_
    show lpPortsR [.l xs, v, .i (xs.length : Int)] = _
    simp only [lpPortsR, errLp, Int.toNat_natCast]
    exact scan_end
theorem m57 : Meets Try.prog 57 S57 (R 57) (F 57) := by
  refine meets_of_vt (pre := R) (Φ := F) mixed (sgAt_all (P := Try.prog) (pre := R) (Φ := F) (l := sg57) (List.forall_mem_cons.2 ⟨Meets.at (pre := R) (Φ := F) m31, (fun _ h => nomatch h)⟩)) Try.func57 b57 n57 (loops_n 2 k57 fun k hk => match k, hk with | 0, _ => loop_this lf57_0 loopM57_0 | 1, _ => loop_this lf57_1 loopM57_1) e57 fun ds hf _ => ?_
  obtain ⟨x, rfl, hx⟩ := fits1 hf.flat
  obtain ⟨xs, rfl, hm, _⟩ := wf_sl hx
  have hpre : prPortsR [.l xs, .i 0, .i 0] := ⟨xs, _, 0, rfl, by omega, hm⟩
  simp (disch := omega) only [vt57, VT.ok, Nd.holds, X.outs, X.ds, X.d, Op2.ev, List.cons_append, List.nil_append, List.getD_cons_zero, List.getD_cons_succ, D.int_i, D.bool_b, D.lst_l, F15701, R15701, F57, portsD, cL]
  refine ⟨fun _ => hpre, ?_⟩
  simp only [lpPortsR, Int.toNat_zero, portsE]
  rcases errLp_two (portE xs) (.i 0) xs.length with ⟨h1, h2⟩ | ⟨h1, _, h2⟩ <;> simp (disch := omega) only [h1, h2, takeD_zero, takeD_cons, List.getD_cons_zero, List.getD_cons_succ, D.int_i, Bool.false_eq_true, ↓reduceIte, beq_t, beq_f]
end Go.Proofs.Ytjdhicmkkmfcgaa.rv
