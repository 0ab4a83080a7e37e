/-
  Graphs: names' places, ports, nodes.; Graphs: nodes.; Graphs: clusters around a cluster; clusters; edges.; Graphs: what is valid.; Graphs: members, depths, common clusters.; Clusters by depth: the sort of Go's library on short lists.; Scenes of drawings: the loops.; Scenes of drawings: the walks; the chapter's examples.; Packed texts: boxes apart, around, free; widths of texts.
-/
import Derived.Test.YtoajdhghecjdlaaZTopPackedL
namespace Go.Proofs.Ytoajdhghecjdlaa.rv
set_option maxRecDepth 10000
open Go.RV
theorem m52 : Meets Try.prog 52 S52 (R 52) (F 52) := by
  refine meets_of_vt (pre := R) (Φ := F) mixed (sgAt_all (P := Try.prog) (pre := R) (Φ := F) (l := sg52) (List.forall_mem_cons.2 ⟨Meets.at (pre := R) (Φ := F) m63, (fun _ h => nomatch h)⟩)) Try.func52 b52 n52 (loops_n 0 k52 fun k hk => by omega) e52 fun ds hf _ => ?_
  obtain ⟨g, ds', rfl, h5, _⟩ := fitsG hf.flat
  obtain ⟨x, rfl, hx⟩ := fits1 h5
  obtain ⟨nm, rfl, _⟩ := wf_str hx
  simp only [vt52, VT.ok, Nd.holds, X.outs, X.ds, X.d, List.cons_append, List.nil_append, List.getD_cons_zero, List.getD_cons_succ, D.bool_b, takeD1_0, F63, R63, F52]
  exact ⟨fun _ i _ => ⟨[.s nm], cellsN 6 (el g.N i), rfl, rfl, cellsN_length 6 _⟩, rfl⟩
theorem el_take {xs : List (List D)} {i j : Nat} (h : i < j) : el (xs.take j) i = el xs i := by
  simp only [el, List.getD, List.getElem?_take, if_pos h]
theorem any_take {xs : List (List D)} {nm : ByteArray} {j : Nat} (h : j ≤ xs.length) : anyN (nmP (xs.take j) nm) (xs.take j).length = anyN (nmP xs nm) j := by
  rw [List.length_take, Nat.min_eq_left h]
  exact anyN_congr fun k hk => by simp only [nmP, el_take hk]
theorem loopM55_0 : LoopMeets Try.prog F (R L55_0.key) L55_0 lb55_0 := by
  refine loop_meets (pre := R) mixed (sgAt_all (P := Try.prog) (pre := R) (Φ := F) (l := sg55) (List.forall_mem_cons.2 ⟨Meets.at (pre := R) (Φ := F) m37, List.forall_mem_cons.2 ⟨Meets.at (pre := R) (Φ := F) m65, (fun _ h => nomatch h)⟩⟩)) (loops_n 0 lk55_0 fun k hk => by omega) L55_0 (fun ρ => ((ρ.getD 3 default).int - (ρ.getD 4 default).int).toNat) le55_0 fun ρ _ hq => ?_
  obtain ⟨xs, v, j, rfl, hj, hm⟩ : prPorts ρ := hq
  rw [maxLen_val] at hm
  by_cases hlt : j < xs.length
  · have hN : portE xs j = 0 → RoundOk F (R L55_0.key) (fun ρ => ((ρ.getD 3 default).int - (ρ.getD 4 default).int).toNat) L55_0 [.l xs, v, .l xs, .i (xs.length : Int), .i (j : Int)] [.i (-1), v, .i ((j + 1 : Nat) : Int)] := fun h0 => by
      refine round_next ⟨⟨xs, v, j + 1, rfl, by omega, hm⟩, ?_, ?_⟩
      · show ((xs.length : Int) - ((j + 1 : Nat) : Int)).toNat < ((xs.length : Int) - (j : Int)).toNat
        omega
      · show lpPorts [.l xs, v, .l xs, .i (xs.length : Int), .i ((j + 1 : Nat) : Int)] = lpPorts [.l xs, v, .l xs, .i (xs.length : Int), .i (j : Int)]
        simp only [lpPorts, errLp, Int.toNat_natCast]
        exact scan_next hlt (by simp only [er, h0]; rfl)
    have hX : ∀ z : Int, portE xs j = z → z ≠ 0 → RoundOk F (R L55_0.key) (fun ρ => ((ρ.getD 3 default).int - (ρ.getD 4 default).int).toNat) L55_0 [.l xs, v, .l xs, .i (xs.length : Int), .i (j : Int)] [.i 0, .i z, .i (j : Int)] := fun z h0 hz => by
      refine round_exit (by omega) ?_
      show lpPorts [.l xs, v, .l xs, .i (xs.length : Int), .i (j : Int)] = _
      simp only [lpPorts, errLp, Int.toNat_natCast]
      rw [← h0]
      exact scan_hit hlt (by simp only [er, h0]; simpa using hz)
    simp (disch := omega) only [rt55_0, VT.ok, Nd.holds, X.outs, X.ds, X.d, Op1.ev, Op2.ev, takeD_zero, takeD_cons, List.cons_append, List.nil_append, List.getD_cons_zero, List.getD_cons_succ, D.int_i, D.bool_b, D.lst_l, ite_b, ite_or, Int.toNat_natCast, implies_true, true_and, takeD1_0, F37, R37, F65, R65, ↓reduceIte, dle_t, dlt_t, w64', nameD, cS]
    cases h1 : isName (cS (el xs j) 0)
    · simp only [Bool.not_false, if_true]
      exact hX 5 (by simp only [portE, h1, Bool.false_eq_true, if_false]) (by omega)
    · simp only [Bool.not_true, Bool.false_eq_true, if_false]
      refine ⟨fun _ i _ => ⟨_, cellsN 2 _, rfl, rfl, cellsN_length 2 _⟩, ?_⟩
      show if anyN (nmP (xs.take j) (cS (el xs j) 0)) (xs.take j).length = true then _ else _
      rw [any_take hj]
      cases h2 : anyN (nmP xs (cS (el xs j) 0)) j
      · simp only [Bool.false_eq_true, if_false]
        by_cases h3 : cI (el xs j) 1 < 0 ∨ 3 < cI (el xs j) 1
        · rw [if_pos (by exact dor_t h3)]
          exact hX 7 (by simp only [portE, h1, h2, if_true, Bool.false_eq_true, if_false, if_pos h3]) (by omega)
        · rw [if_neg (by exact dor_f h3)]
          exact hN (by simp only [portE, h1, h2, if_true, Bool.false_eq_true, if_false, if_neg h3])
      · simp only [if_true]
        exact hX 6 (by simp only [portE, h1, h2, if_true]) (by omega)
  · have hj' : j = xs.length := by omega
    subst hj'
    simp (disch := omega) only [rt55_0, VT.ok, X.ds, X.d, Op2.ev, List.getD_cons_zero, List.getD_cons_succ, D.int_i, D.bool_b, Bool.false_eq_true, ↓reduceIte, dlt_f]
    refine round_exit (by omega) ?_
    show lpPorts [.l xs, v, .l xs, .i (xs.length : Int), .i (xs.length : Int)] = _
    simp only [lpPorts, errLp, Int.toNat_natCast]
    exact scan_end
theorem m55 : Meets Try.prog 55 S55 (R 55) (F 55) := by
  refine meets_of_vt (pre := R) (Φ := F) mixed (sgAt_all (P := Try.prog) (pre := R) (Φ := F) (l := sg55) (List.forall_mem_cons.2 ⟨Meets.at (pre := R) (Φ := F) m37, List.forall_mem_cons.2 ⟨Meets.at (pre := R) (Φ := F) m65, (fun _ h => nomatch h)⟩⟩)) Try.func55 b55 n55 (loops_n 1 k55 fun k hk => match k, hk with | 0, _ => loop_this lf55_0 loopM55_0) e55 fun ds hf _ => ?_
  obtain ⟨x, rfl, hx⟩ := fits1 hf.flat
  obtain ⟨xs, rfl, hm, _⟩ := wf_sl hx
  have hpre : prPorts [.l xs, .i 0, .l xs, .i (xs.length : Int), .i 0] := ⟨xs, _, 0, rfl, by omega, hm⟩
  by_cases h : 8 < (xs.length : Int)
  · simp (disch := omega) only [vt55, VT.ok, X.ds, X.d, Op1.ev, Op2.ev, List.getD_cons_zero, D.int_i, D.bool_b, D.lst_l, F55, ↓reduceIte, dlt_t, ports8D, ports8, cL, if_pos h]
  · simp (disch := omega) only [vt55, VT.ok, Nd.holds, X.outs, X.ds, X.d, Op1.ev, Op2.ev, List.cons_append, List.nil_append, List.getD_cons_zero, List.getD_cons_succ, D.int_i, D.bool_b, D.lst_l, Bool.false_eq_true, F15500, R15500, F55, ↓reduceIte, dlt_f, ports8D, ports8, cL, if_neg h]
    refine ⟨fun _ => hpre, ?_⟩
    simp only [lpPorts, Int.toNat_zero, portsE]
    rcases errLp_two (portE xs) (.i 0) xs.length with ⟨h1, h2⟩ | ⟨h1, _, h2⟩ <;> simp (disch := omega) only [h1, h2, takeD_zero, takeD_cons, List.getD_cons_zero, List.getD_cons_succ, D.int_i, Bool.false_eq_true, ↓reduceIte, beq_t, beq_f]
end Go.Proofs.Ytoajdhghecjdlaa.rv
namespace Go.Proofs.Ytoajdhghecjdlaa.rv
set_option maxRecDepth 10000
open Go.RV
theorem if4 (a b c d : Bool) (p : Int) : if (!a || !b || c || d) = true then [D.i 3] = [D.i (if (a && b && !c && !d) = true then p else 3)] else [D.i p] = [D.i (if (a && b && !c && !d) = true then p else 3)] := by
  cases a <;> cases b <;> cases c <;> cases d <;> rfl
theorem m38 : Meets Try.prog 38 S38 (R 38) (F 38) := by
  refine meets_of_vt (pre := R) (Φ := F) mixed (sgAt_all (P := Try.prog) (pre := R) (Φ := F) (l := sg38) (List.forall_mem_cons.2 ⟨Meets.at (pre := R) (Φ := F) m37, List.forall_mem_cons.2 ⟨Meets.at (pre := R) (Φ := F) m52, List.forall_mem_cons.2 ⟨Meets.at (pre := R) (Φ := F) m53, List.forall_mem_cons.2 ⟨Meets.at (pre := R) (Φ := F) m54, List.forall_mem_cons.2 ⟨Meets.at (pre := R) (Φ := F) m55, (fun _ h => nomatch h)⟩⟩⟩⟩⟩)) Try.func38 b38 n38 (loops_n 0 k38 fun k hk => by omega) e38 fun ds hf hq => ?_
  obtain ⟨g, ds', rfl, h5, _, ⟨hmN, hN⟩, _⟩ := fitsG hf.flat
  obtain ⟨x, rfl, hx⟩ := fits1 h5
  obtain ⟨i, e, hi⟩ : prNode (.s g.nm :: .b g.dr :: .l g.N :: .l g.E :: .l g.C :: [x]) := hq
  have e : x = .i (i : Int) := e
  subst e
  have hi : i < g.N.length := hi
  simp (disch := omega) only [vt38, VT.ok, Nd.holds, X.outs, X.ds, X.d, Op1.ev, Op2.ev, takeD_zero, takeD_cons, List.cons_append, List.nil_append, List.getD_cons_zero, List.getD_cons_succ, D.int_i, D.bool_b, D.lst_l, ite_b, ite_or, Int.toNat_natCast, implies_true, true_and, F37, R37, F52, R52, F53, R53, F54, R54, F55, R55, F38, dle_t, dlt_t, nameD, findD, labelD, fn54_eq, sizedD, ports8D, nodeD, nodeE, cS, cI, cL, Int.toNat_natCast]
  cases h1 : isName (cS (el g.N i) 0)
  · simp only [Bool.not_false, if_true, Bool.false_eq_true, if_false]
  · simp only [Bool.not_true, if_true, Bool.false_eq_true, if_false]
    by_cases h2 : find g.N (cS (el g.N i) 0) < i
    · rw [if_pos (by exact dec_t h2), if_pos h2]
    · rw [if_neg (by exact dec_f h2), if_neg h2]
      by_cases h3 : labelE (cS (el g.N i) 1) = 0
      · rw [if_neg (by exact bne_f h3), if_pos h3]
        exact if4 _ _ _ _ _
      · rw [if_pos (by exact bne_t h3), if_neg h3]
end Go.Proofs.Ytoajdhghecjdlaa.rv
namespace Go.Proofs.Ytoajdhghecjdlaa.rv
set_option maxRecDepth 10000
open Go.RV
theorem up_fuel {C : List (List D)} : ∀ (f f' : Nat) (c : Int), c < f → c < f' → okC C (c + 1).toNat → up C f c = up C f' c
  | 0, 0, _, _, _, _ => rfl
  | 0, f' + 1, c, h, _, _ => by simp only [up]; rw [if_neg (by omega)]
  | f + 1, 0, c, _, h, _ => by simp only [up]; rw [if_neg (by omega)]
  | f + 1, f' + 1, c, h, h', hok => by
    simp only [up]
    by_cases h0 : 0 ≤ c
    · rw [if_pos h0, if_pos h0]
      have := hok c.toNat (by omega)
      rw [up_fuel f f' _ (by omega) (by omega) (hok.mono (by omega))]
    · rw [if_neg h0, if_neg h0]
theorem around_neg {C : List (List D)} {c : Int} (h : c < 0) : around C c = [] := by
  unfold around up; rw [if_neg (by omega)]
theorem around_at {C : List (List D)} {c : Int} (h0 : 0 ≤ c) (hok : okC C (c + 1).toNat) : around C c = c :: around C (cI (el C c.toNat) 1) := by
  have hb := hok c.toNat (by omega)
  unfold around
  simp only [up]
  rw [if_pos h0]
  congr 1
  exact up_fuel c.toNat ((cI (el C c.toNat) 1).toNat + 1) (cI (el C c.toNat) 1) (by omega) (by omega) (hok.mono (m := (cI (el C c.toNat) 1 + 1).toNat) (by omega))
theorem atC_up {C : List (List D)} {c : Int} (h : atC C c) (h0 : 0 ≤ c) : atC C (cI (el C c.toNat) 1) := by
  obtain ⟨h1, h2, h3, h4⟩ := h
  have hb := h4 c.toNat (by omega)
  exact ⟨by omega, by omega, h3, h4.mono (m := (cI (el C c.toNat) 1 + 1).toNat) (by omega)⟩
theorem rowI1_of {C : List (List D)} (h : ∀ x ∈ C, FitsF [.str, .int .i64] x) : rowI1 C := fun i hi => by
  have hx := h (el C i) (getD_mem [] hi)
  obtain ⟨a, b, e, _, hb⟩ := fits2 hx
  obtain ⟨z, rfl, _⟩ := wf_i64 hb
  simp only [cI, e]; rfl
theorem loopM68_0 : LoopMeets Try.prog F (R L68_0.key) L68_0 lb68_0 := by
  refine loop_meets (pre := R) mixed (sgAt_all (P := Try.prog) (pre := R) (Φ := F) (l := sg68) ((fun _ h => nomatch h))) (loops_n 0 lk68_0 fun k hk => by omega) L68_0 (fun ρ => ((ρ.getD 0 default).int + 1).toNat) le68_0 fun ρ _ hq => ?_
  obtain ⟨c, g, acc, rfl, hat, hrow, hacc⟩ : prArL ρ := hq
  have hat0 := hat
  obtain ⟨h1, h2, h3, h4⟩ := hat
  by_cases h0 : 0 ≤ c
  · have hn : c.toNat < g.C.length := by omega
    have hr : (g.C.getD c.toNat []).getD 1 default = .i (cI (el g.C c.toNat) 1) := hrow _ hn
    have hb := h4 c.toNat (by omega)
    simp (disch := omega) only [rt68_0, VT.ok, Nd.holds, X.ds, X.d, Op1.ev, Op2.ev, List.getD_cons_zero, List.getD_cons_succ, D.int_i, D.bool_b, D.lst_l, implies_true, true_and, ↓reduceIte, dle_t, dlt_t, hr, List.length_append, List.length_cons, List.length_nil]
    refine round_next ⟨⟨cI (el g.C c.toNat) 1, g, acc ++ [[.i c]], rfl, atC_up hat0 h0, hrow, by rw [List.length_append, List.length_cons, List.length_nil]; omega⟩, ?_, ?_⟩
    · show (cI (el g.C c.toNat) 1 + 1).toNat < (c + 1).toNat
      omega
    · show lpAr [.i (cI (el g.C c.toNat) 1), .s g.nm, .b g.dr, .l g.N, .l g.E, .l g.C, .l (acc ++ [[.i c]])] = lpAr [.i c, .s g.nm, .b g.dr, .l g.N, .l g.E, .l g.C, .l acc]
      simp only [lpAr, around_at h0 h4, List.map_cons, List.append_assoc, List.cons_append, List.nil_append]
      rfl
  · simp (disch := omega) only [rt68_0, VT.ok, X.ds, X.d, Op2.ev, List.getD_cons_zero, List.getD_cons_succ, D.int_i, D.bool_b, Bool.false_eq_true, ↓reduceIte, dle_f]
    refine round_exit (by omega) ?_
    show lpAr [.i c, .s g.nm, .b g.dr, .l g.N, .l g.E, .l g.C, .l acc] = _
    have : c = -1 := by omega
    subst this
    simp only [lpAr, around_neg (show (-1 : Int) < 0 by omega), List.map_nil, List.append_nil]
theorem m68 : Meets Try.prog 68 S68 (R 68) (F 68) := by
  refine meets_of_vt (pre := R) (Φ := F) mixed (sgAt_all (P := Try.prog) (pre := R) (Φ := F) (l := sg68) ((fun _ h => nomatch h))) Try.func68 b68 n68 (loops_n 1 k68 fun k hk => match k, hk with | 0, _ => loop_this lf68_0 loopM68_0) e68 fun ds hf hq => ?_
  obtain ⟨g, ds', rfl, h5, _, _, _, ⟨_, hC⟩⟩ := fitsG hf.flat
  obtain ⟨x, rfl, hx⟩ := fits1 h5
  obtain ⟨c, rfl, _⟩ := wf_i64 hx
  have hq : atC g.C c := hq
  have hpre : prArL [.i c, .s g.nm, .b g.dr, .l g.N, .l g.E, .l g.C, .l []] := ⟨c, g, [], rfl, hq, rowI1_of hC, by have := hq.1; have := hq.2.1; have := hq.2.2.1; simp; omega⟩
  simp only [vt68, VT.ok, Nd.holds, X.outs, X.ds, X.d, takeD_zero, takeD_cons, List.cons_append, List.nil_append, List.getD_cons_zero, List.getD_cons_succ, D.int_i, D.bool_b, D.lst_l, and_true, F16800, R16800, F68, lpAr, aroundD, cL, cI]
  exact fun _ => hpre
theorem m58 : Meets Try.prog 58 S58 (R 58) (F 58) := by
  refine meets_of_vt (pre := R) (Φ := F) mixed (sgAt_all (P := Try.prog) (pre := R) (Φ := F) (l := sg58) (List.forall_mem_cons.2 ⟨Meets.at (pre := R) (Φ := F) m68, (fun _ h => nomatch h)⟩)) Try.func58 b58 n58 (loops_n 0 k58 fun k hk => by omega) e58 fun ds hf hq => ?_
  obtain ⟨g, ds', rfl, h5, _⟩ := fitsG hf.flat
  obtain ⟨x, rfl, hx⟩ := fits1 h5
  simp only [vt58, VT.ok, Nd.holds, X.outs, X.ds, X.d, Op1.ev, takeD_zero, takeD_cons, List.cons_append, List.nil_append, List.getD_cons_zero, List.getD_cons_succ, D.bool_b, D.lst_l, List.length_map, and_true, F68, R68, F58, aroundD, depthD, depth, cL, cI]
  exact fun _ => hq
theorem m39 : Meets Try.prog 39 S39 (R 39) (F 39) := by
  refine meets_of_vt (pre := R) (Φ := F) mixed (sgAt_all (P := Try.prog) (pre := R) (Φ := F) (l := sg39) (List.forall_mem_cons.2 ⟨Meets.at (pre := R) (Φ := F) m37, List.forall_mem_cons.2 ⟨Meets.at (pre := R) (Φ := F) m52, List.forall_mem_cons.2 ⟨Meets.at (pre := R) (Φ := F) m56, List.forall_mem_cons.2 ⟨Meets.at (pre := R) (Φ := F) m58, (fun _ h => nomatch h)⟩⟩⟩⟩)) Try.func39 b39 n39 (loops_n 0 k39 fun k hk => by omega) e39 fun ds hf hq => ?_
  obtain ⟨g, ds', rfl, h5, _, _, _, ⟨_, hC⟩⟩ := fitsG hf.flat
  obtain ⟨x, rfl, hx⟩ := fits1 h5
  obtain ⟨i, e, hi, h16, hok⟩ : prClu (.s g.nm :: .b g.dr :: .l g.N :: .l g.E :: .l g.C :: [x]) := hq
  have e : x = .i (i : Int) := e
  subst e
  have hi : i < g.C.length := hi
  have h16 : g.C.length ≤ 16 := h16
  have hok : okC g.C i := hok
  have hF : F 39 (.s g.nm :: .b g.dr :: .l g.N :: .l g.E :: .l g.C :: [.i (i : Int)]) = [.i (cluE g.N g.C i)] := rfl
  rw [hF]
  generalize hv : cluE g.N g.C i = res
  unfold cluE at hv
  simp (disch := omega) only [vt39, VT.ok, Nd.holds, X.outs, X.ds, X.d, Op1.ev, Op2.ev, takeD_zero, takeD_cons, List.cons_append, List.nil_append, List.getD_cons_zero, List.getD_cons_succ, D.int_i, D.bool_b, D.lst_l, ite_b, ite_or, Int.toNat_natCast, implies_true, true_and, takeD1_0, F37, R37, F52, R52, F56, R56, F58, R58, dle_t, dlt_t, nameD, findD, depthD, cS, cI, cL, Int.toNat_natCast]
  cases h1 : isName (cS (el g.C i) 0)
  · rw [h1] at hv
    simp only [Bool.not_false, if_true]
    rw [← hv]; rfl
  · simp only [h1, if_true] at hv
    simp only [Bool.not_true, Bool.false_eq_true, if_false]
    refine ⟨fun _ k _ => ⟨_, cellsN 2 _, rfl, rfl, cellsN_length 2 _⟩, ?_⟩
    show if (if decide (0 ≤ find g.N (cS (el g.C i) 0)) = true then D.b true else D.b (anyN (nmP (g.C.take i) (cS (el g.C i) 0)) (g.C.take i).length)).bool = true then _ else _
    rw [any_take (by omega)]
    simp only [ite_b, ite_or, D.bool_b]
    cases h2 : (decide (0 ≤ find g.N (cS (el g.C i) 0)) || anyN (nmP g.C (cS (el g.C i) 0)) i)
    · rw [h2] at hv
      simp only [Bool.false_eq_true, if_false] at hv ⊢
      by_cases h3 : cI (el g.C i) 1 < -1 ∨ (i : Int) ≤ cI (el g.C i) 1
      · rw [if_pos h3] at hv
        rw [if_pos (by exact dor_t h3), ← hv]
      · rw [if_neg h3] at hv
        rw [if_neg (by exact dor_f h3)]
        have hat : atC g.C i := ⟨by omega, by omega, h16, fun k hk => by
          by_cases e : k = i
          · subst e; omega
          · exact hok k (by omega)⟩
        refine ⟨fun _ => hat, ?_⟩
        by_cases h4 : 6 < depth g.C i
        · rw [if_pos h4] at hv
          rw [if_pos (by exact dec_t h4), ← hv]
        · rw [if_neg h4] at hv
          rw [if_neg (by exact dec_f h4), ← hv]
    · rw [h2] at hv
      simp only [if_true] at hv ⊢
      rw [← hv]
theorem fitsE {ds : List D} (h : FitsF [.int .i64, .int .i64, .int .i64, .int .i64, .str, .int .i64, .int .i64] ds) : ∃ (a b c d : Int) (s : ByteArray) (w l : Int), ds = [.i a, .i b, .i c, .i d, .s s, .i w, .i l] ∧ s.size ≤ maxLen := by
  match ds, h with
  | [d0, d1, d2, d3, d4, d5, d6], ⟨h0, h1, h2, h3, h4, h5, h6, _⟩ =>
    obtain ⟨a, rfl, _⟩ := wf_i64 h0
    obtain ⟨b, rfl, _⟩ := wf_i64 h1
    obtain ⟨c, rfl, _⟩ := wf_i64 h2
    obtain ⟨d, rfl, _⟩ := wf_i64 h3
    obtain ⟨s, rfl, hs⟩ := wf_str h4
    obtain ⟨w, rfl, _⟩ := wf_i64 h5
    obtain ⟨l, rfl, _⟩ := wf_i64 h6
    exact ⟨a, b, c, d, s, w, l, rfl, hs⟩
theorem m40 : Meets Try.prog 40 S40 (R 40) (F 40) := by
  refine meets_of_vt (pre := R) (Φ := F) mixed (sgAt_all (P := Try.prog) (pre := R) (Φ := F) (l := sg40) (List.forall_mem_cons.2 ⟨Meets.at (pre := R) (Φ := F) m53, (fun _ h => nomatch h)⟩)) Try.func40 b40 n40 (loops_n 0 k40 fun k hk => by omega) e40 fun ds hf hq => ?_
  obtain ⟨g, ds', rfl, h5, _⟩ := fitsG hf.flat
  obtain ⟨a, b, c, d, s, w, l, rfl, _⟩ := fitsE h5
  have hF : F 40 (.s g.nm :: .b g.dr :: .l g.N :: .l g.E :: .l g.C :: [.i a, .i b, .i c, .i d, .s s, .i w, .i l]) = [.i (edgeE g.N [.i a, .i b, .i c, .i d, .s s, .i w, .i l])] := rfl
  rw [hF]
  generalize hv : edgeE g.N [.i a, .i b, .i c, .i d, .s s, .i w, .i l] = res
  simp only [edgeE, cI, cS, cL, List.getD_cons_zero, List.getD_cons_succ, D.int_i, D.str_s] at hv
  generalize hA : (((el g.N a.toNat).getD 5 default).lst.length : Int) = A at hv
  generalize hB : (((el g.N b.toNat).getD 5 default).lst.length : Int) = B at hv
  have hA' : (((g.N.getD a.toNat []).getD 5 default).lst.length : Int) = A := hA
  have hB' : (((g.N.getD b.toNat []).getD 5 default).lst.length : Int) = B := hB
  by_cases h1 : 0 ≤ a ∧ a < g.N.length ∧ 0 ≤ b ∧ b < g.N.length ∧ -1 ≤ c ∧ c < A ∧ -1 ≤ d ∧ d < B
  · rw [if_pos h1] at hv
    simp (disch := omega) only [vt40, VT.ok, Nd.holds, X.outs, X.ds, X.d, Op1.ev, Op2.ev, takeD_zero, takeD_cons, List.cons_append, List.nil_append, List.getD_cons_zero, List.getD_cons_succ, D.int_i, D.bool_b, D.lst_l, D.str_s, ite_b, ite_or, imin, imax, Bool.false_eq_true, implies_true, true_and, F53, R53, ↓reduceIte, dle_t, dle_f, dlt_t, dlt_f, hA', hB', labelD, cS, Bool.not_false]
    by_cases h2 : labelE s = 0
    · rw [if_pos h2] at hv
      rw [if_neg (by exact bne_f h2)]
      by_cases h3 : 1 ≤ w ∧ w ≤ 1000 ∧ 1 ≤ l ∧ l ≤ 64
      · rw [if_pos h3] at hv
        simp (disch := omega) only [↓reduceIte, dlt_f, Bool.or_self, Bool.false_eq_true]
        rw [← hv]
      · rw [if_neg h3] at hv
        rw [if_pos (by
          simp only [Bool.or_eq_true, decide_eq_true_eq]
          omega), ← hv]
    · rw [if_neg h2] at hv
      rw [if_pos (by exact bne_t h2), ← hv]
  · rw [if_neg h1] at hv
    have hc : ((((decide (min a b < 0) || decide ((g.N.length : Int) ≤ max a b)) || decide (min c d < -1)) || decide (A ≤ c)) || decide (B ≤ d)) = true := by
      simp only [Bool.or_eq_true, decide_eq_true_eq]
      omega
    simp only [vt40, VT.ok, Nd.holds, X.outs, X.ds, X.d, Op1.ev, Op2.ev, List.cons_append, List.nil_append, List.getD_cons_zero, List.getD_cons_succ, D.int_i, D.bool_b, D.lst_l, ite_b, ite_or, imin, imax, if_true, implies_true, true_and, takeD1_0, F53, R53, hA', hB', hc]
    simp only [Bool.not_eq_true', Bool.or_eq_false_iff, decide_eq_false_iff_not, decide_eq_true_eq]
    exact ⟨fun h => by omega, fun h => by omega, fun h => by omega, fun h => by omega, by rw [hv]⟩
end Go.Proofs.Ytoajdhghecjdlaa.rv
namespace Go.Proofs.Ytoajdhghecjdlaa.rv
set_option maxRecDepth 10000
open Go.RV
theorem edgeD7 (a b : D) (N : List (List D)) (c d : D) (x : List D) : edgeD [a, b, .l N, c, d, x.getD 0 default, x.getD 1 default, x.getD 2 default, x.getD 3 default, x.getD 4 default, x.getD 5 default, x.getD 6 default] = [.i (edgeE N x)] := rfl
theorem loopM24_0 : LoopMeets Try.prog F (R L24_0.key) L24_0 lb24_0 := by
  refine loop_meets (pre := R) mixed (sgAt_all (P := Try.prog) (pre := R) (Φ := F) (l := sg24) (List.forall_mem_cons.2 ⟨Meets.at (pre := R) (Φ := F) m37, List.forall_mem_cons.2 ⟨Meets.at (pre := R) (Φ := F) m38, List.forall_mem_cons.2 ⟨Meets.at (pre := R) (Φ := F) m39, List.forall_mem_cons.2 ⟨Meets.at (pre := R) (Φ := F) m40, (fun _ h => nomatch h)⟩⟩⟩⟩)) (loops_n 0 lk24_0 fun k hk => by omega) L24_0 (fun ρ => ((ρ.getD 1 default).int - (ρ.getD 2 default).int).toNat) le24_0 fun ρ _ hq => ?_
  obtain ⟨v, g, j, rfl, hj, hm⟩ : prV0 ρ := hq
  rw [maxLen_val] at hm
  by_cases hlt : j < g.N.length
  · have hN : nodeE g.N g.C j = 0 → RoundOk F (R L24_0.key) (fun ρ => ((ρ.getD 1 default).int - (ρ.getD 2 default).int).toNat) L24_0 [v, .i (g.N.length : Int), .i (j : Int), .s g.nm, .b g.dr, .l g.N, .l g.E, .l g.C] [.i (-1), v, .i ((j + 1 : Nat) : Int)] := fun h0 => by
      refine round_next ⟨⟨v, g, j + 1, rfl, by omega, hm⟩, ?_, ?_⟩
      · show ((g.N.length : Int) - ((j + 1 : Nat) : Int)).toNat < ((g.N.length : Int) - (j : Int)).toNat
        omega
      · show lpV0 [v, .i (g.N.length : Int), .i ((j + 1 : Nat) : Int), .s g.nm, .b g.dr, .l g.N, .l g.E, .l g.C] = lpV0 [v, .i (g.N.length : Int), .i (j : Int), .s g.nm, .b g.dr, .l g.N, .l g.E, .l g.C]
        simp only [lpV0, errLp, Int.toNat_natCast]
        exact scan_next hlt (by simp only [er, h0]; rfl)
    have hX : ∀ z : Int, nodeE g.N g.C j = z → z ≠ 0 → RoundOk F (R L24_0.key) (fun ρ => ((ρ.getD 1 default).int - (ρ.getD 2 default).int).toNat) L24_0 [v, .i (g.N.length : Int), .i (j : Int), .s g.nm, .b g.dr, .l g.N, .l g.E, .l g.C] [.i 0, .i z, .i (j : Int)] := fun z h0 hz => by
      refine round_exit (by omega) ?_
      show lpV0 [v, .i (g.N.length : Int), .i (j : Int), .s g.nm, .b g.dr, .l g.N, .l g.E, .l g.C] = _
      simp only [lpV0, errLp, Int.toNat_natCast]
      rw [← h0]
      exact scan_hit hlt (by simp only [er, h0]; simpa using hz)
    have hpre : prNode [.s g.nm, .b g.dr, .l g.N, .l g.E, .l g.C, .i (j : Int)] := ⟨j, rfl, hlt⟩
    simp (disch := omega) only [rt24_0, VT.ok, Nd.holds, X.outs, X.ds, X.d, Op1.ev, Op2.ev, takeD_zero, takeD_cons, List.cons_append, List.nil_append, List.getD_cons_zero, List.getD_cons_succ, D.int_i, D.bool_b, D.lst_l, Int.toNat_natCast, F38, R38, ↓reduceIte, dlt_t, w64', nodeD, cL, cI, Int.toNat_natCast]
    refine ⟨fun _ => hpre, ?_⟩
    by_cases h : nodeE g.N g.C j = 0
    · rw [if_neg (by exact bne_f h)]
      exact hN h
    · rw [if_pos (by exact bne_t h)]
      exact hX _ rfl h
  · have hj' : j = g.N.length := by omega
    subst hj'
    simp (disch := omega) only [rt24_0, VT.ok, X.ds, X.d, Op2.ev, List.getD_cons_zero, List.getD_cons_succ, D.int_i, D.bool_b, Bool.false_eq_true, ↓reduceIte, dlt_f]
    refine round_exit (by omega) ?_
    show lpV0 [v, .i (g.N.length : Int), .i (g.N.length : Int), .s g.nm, .b g.dr, .l g.N, .l g.E, .l g.C] = _
    simp only [lpV0, errLp, Int.toNat_natCast]
    exact scan_end
theorem loopM24_1 : LoopMeets Try.prog F (R L24_1.key) L24_1 lb24_1 := by
  refine loop_meets (pre := R) mixed (sgAt_all (P := Try.prog) (pre := R) (Φ := F) (l := sg24) (List.forall_mem_cons.2 ⟨Meets.at (pre := R) (Φ := F) m37, List.forall_mem_cons.2 ⟨Meets.at (pre := R) (Φ := F) m38, List.forall_mem_cons.2 ⟨Meets.at (pre := R) (Φ := F) m39, List.forall_mem_cons.2 ⟨Meets.at (pre := R) (Φ := F) m40, (fun _ h => nomatch h)⟩⟩⟩⟩)) (loops_n 0 lk24_1 fun k hk => by omega) L24_1 (fun ρ => ((ρ.getD 1 default).int - (ρ.getD 2 default).int).toNat) le24_1 fun ρ _ hq => ?_
  obtain ⟨v, g, j, rfl, hj, h16, hk⟩ : prV1 ρ := hq
  by_cases hlt : j < g.C.length
  · have hN : cluE g.N g.C j = 0 → RoundOk F (R L24_1.key) (fun ρ => ((ρ.getD 1 default).int - (ρ.getD 2 default).int).toNat) L24_1 [v, .i (g.C.length : Int), .i (j : Int), .s g.nm, .b g.dr, .l g.N, .l g.E, .l g.C] [.i (-1), v, .i ((j + 1 : Nat) : Int)] := fun h0 => by
      refine round_next ⟨⟨v, g, j + 1, rfl, by omega, h16, by intro k hk'; rcases Nat.lt_or_ge k j with e | e; exact hk k e; rw [show k = j by omega]; exact h0⟩, ?_, ?_⟩
      · show ((g.C.length : Int) - ((j + 1 : Nat) : Int)).toNat < ((g.C.length : Int) - (j : Int)).toNat
        omega
      · show lpV1 [v, .i (g.C.length : Int), .i ((j + 1 : Nat) : Int), .s g.nm, .b g.dr, .l g.N, .l g.E, .l g.C] = lpV1 [v, .i (g.C.length : Int), .i (j : Int), .s g.nm, .b g.dr, .l g.N, .l g.E, .l g.C]
        simp only [lpV1, errLp, Int.toNat_natCast]
        exact scan_next hlt (by simp only [er, h0]; rfl)
    have hX : ∀ z : Int, cluE g.N g.C j = z → z ≠ 0 → RoundOk F (R L24_1.key) (fun ρ => ((ρ.getD 1 default).int - (ρ.getD 2 default).int).toNat) L24_1 [v, .i (g.C.length : Int), .i (j : Int), .s g.nm, .b g.dr, .l g.N, .l g.E, .l g.C] [.i 0, .i z, .i (j : Int)] := fun z h0 hz => by
      refine round_exit (by omega) ?_
      show lpV1 [v, .i (g.C.length : Int), .i (j : Int), .s g.nm, .b g.dr, .l g.N, .l g.E, .l g.C] = _
      simp only [lpV1, errLp, Int.toNat_natCast]
      rw [← h0]
      exact scan_hit hlt (by simp only [er, h0]; simpa using hz)
    have hpre : prClu [.s g.nm, .b g.dr, .l g.N, .l g.E, .l g.C, .i (j : Int)] := ⟨j, rfl, hlt, h16, okC_of hk⟩
    simp (disch := omega) only [rt24_1, VT.ok, Nd.holds, X.outs, X.ds, X.d, Op1.ev, Op2.ev, takeD_zero, takeD_cons, List.cons_append, List.nil_append, List.getD_cons_zero, List.getD_cons_succ, D.int_i, D.bool_b, D.lst_l, Int.toNat_natCast, F39, R39, ↓reduceIte, dlt_t, w64', cluD, cL, cI, Int.toNat_natCast]
    refine ⟨fun _ => hpre, ?_⟩
    by_cases h : cluE g.N g.C j = 0
    · rw [if_neg (by exact bne_f h)]
      exact hN h
    · rw [if_pos (by exact bne_t h)]
      exact hX _ rfl h
  · have hj' : j = g.C.length := by omega
    subst hj'
    simp (disch := omega) only [rt24_1, VT.ok, X.ds, X.d, Op2.ev, List.getD_cons_zero, List.getD_cons_succ, D.int_i, D.bool_b, Bool.false_eq_true, ↓reduceIte, dlt_f]
    refine round_exit (by omega) ?_
    show lpV1 [v, .i (g.C.length : Int), .i (g.C.length : Int), .s g.nm, .b g.dr, .l g.N, .l g.E, .l g.C] = _
    simp only [lpV1, errLp, Int.toNat_natCast]
    exact scan_end
theorem loopM24_2 : LoopMeets Try.prog F (R L24_2.key) L24_2 lb24_2 := by
  refine loop_meets (pre := R) mixed (sgAt_all (P := Try.prog) (pre := R) (Φ := F) (l := sg24) (List.forall_mem_cons.2 ⟨Meets.at (pre := R) (Φ := F) m37, List.forall_mem_cons.2 ⟨Meets.at (pre := R) (Φ := F) m38, List.forall_mem_cons.2 ⟨Meets.at (pre := R) (Φ := F) m39, List.forall_mem_cons.2 ⟨Meets.at (pre := R) (Φ := F) m40, (fun _ h => nomatch h)⟩⟩⟩⟩)) (loops_n 0 lk24_2 fun k hk => by omega) L24_2 (fun ρ => ((ρ.getD 2 default).int - (ρ.getD 3 default).int).toNat) le24_2 fun ρ _ hq => ?_
  obtain ⟨v, g, j, rfl, hj, hm⟩ : prV2 ρ := hq
  rw [maxLen_val] at hm
  by_cases hlt : j < g.E.length
  · have hN : edgeE g.N (el g.E j) = 0 → RoundOk F (R L24_2.key) (fun ρ => ((ρ.getD 2 default).int - (ρ.getD 3 default).int).toNat) L24_2 [v, .l g.E, .i (g.E.length : Int), .i (j : Int), .s g.nm, .b g.dr, .l g.N, .l g.E, .l g.C] [.i (-1), v, .i ((j + 1 : Nat) : Int)] := fun h0 => by
      refine round_next ⟨⟨v, g, j + 1, rfl, by omega, hm⟩, ?_, ?_⟩
      · show ((g.E.length : Int) - ((j + 1 : Nat) : Int)).toNat < ((g.E.length : Int) - (j : Int)).toNat
        omega
      · show lpV2 [v, .l g.E, .i (g.E.length : Int), .i ((j + 1 : Nat) : Int), .s g.nm, .b g.dr, .l g.N, .l g.E, .l g.C] = lpV2 [v, .l g.E, .i (g.E.length : Int), .i (j : Int), .s g.nm, .b g.dr, .l g.N, .l g.E, .l g.C]
        simp only [lpV2, errLp, Int.toNat_natCast]
        exact scan_next hlt (by simp only [er, h0]; rfl)
    have hX : ∀ z : Int, edgeE g.N (el g.E j) = z → z ≠ 0 → RoundOk F (R L24_2.key) (fun ρ => ((ρ.getD 2 default).int - (ρ.getD 3 default).int).toNat) L24_2 [v, .l g.E, .i (g.E.length : Int), .i (j : Int), .s g.nm, .b g.dr, .l g.N, .l g.E, .l g.C] [.i 0, .i z, .i (j : Int)] := fun z h0 hz => by
      refine round_exit (by omega) ?_
      show lpV2 [v, .l g.E, .i (g.E.length : Int), .i (j : Int), .s g.nm, .b g.dr, .l g.N, .l g.E, .l g.C] = _
      simp only [lpV2, errLp, Int.toNat_natCast]
      rw [← h0]
      exact scan_hit hlt (by simp only [er, h0]; simpa using hz)
    simp (disch := omega) only [rt24_2, VT.ok, Nd.holds, X.outs, X.ds, X.d, Op1.ev, Op2.ev, takeD_zero, takeD_cons, List.cons_append, List.nil_append, List.getD_cons_zero, List.getD_cons_succ, D.int_i, D.bool_b, D.lst_l, Int.toNat_natCast, implies_true, true_and, F40, R40, ↓reduceIte, dle_t, dlt_t, w64', edgeD7, Int.toNat_natCast]
    by_cases h : edgeE g.N (el g.E j) = 0
    · rw [if_neg (by exact bne_f h)]
      exact hN h
    · rw [if_pos (by exact bne_t h)]
      exact hX _ rfl h
  · have hj' : j = g.E.length := by omega
    subst hj'
    simp (disch := omega) only [rt24_2, VT.ok, X.ds, X.d, Op2.ev, List.getD_cons_zero, List.getD_cons_succ, D.int_i, D.bool_b, Bool.false_eq_true, ↓reduceIte, dlt_f]
    refine round_exit (by omega) ?_
    show lpV2 [v, .l g.E, .i (g.E.length : Int), .i (g.E.length : Int), .s g.nm, .b g.dr, .l g.N, .l g.E, .l g.C] = _
    simp only [lpV2, errLp, Int.toNat_natCast]
    exact scan_end
theorem m24 : Meets Try.prog 24 S24 (R 24) (F 24) := by
  refine meets_of_vt (pre := R) (Φ := F) mixed (sgAt_all (P := Try.prog) (pre := R) (Φ := F) (l := sg24) (List.forall_mem_cons.2 ⟨Meets.at (pre := R) (Φ := F) m37, List.forall_mem_cons.2 ⟨Meets.at (pre := R) (Φ := F) m38, List.forall_mem_cons.2 ⟨Meets.at (pre := R) (Φ := F) m39, List.forall_mem_cons.2 ⟨Meets.at (pre := R) (Φ := F) m40, (fun _ h => nomatch h)⟩⟩⟩⟩)) Try.func24 b24 n24 (loops_n 3 k24 fun k hk => match k, hk with | 0, _ => loop_this lf24_0 loopM24_0 | 1, _ => loop_this lf24_1 loopM24_1 | 2, _ => loop_this lf24_2 loopM24_2) e24 fun ds hf hq => ?_
  obtain ⟨g, ds', rfl, h5, hnm, ⟨hmN, _⟩, ⟨hmE, _⟩, ⟨hmC, _⟩⟩ := fitsG hf.flat
  have e0 := fits0 h5
  subst e0
  have hF : F 24 [.s g.nm, .b g.dr, .l g.N, .l g.E, .l g.C] = [.i (validE g)] := rfl
  rw [hF]
  generalize hv : validE g = res
  unfold validE at hv
  by_cases h0 : 64 < (g.N.length : Int) ∨ 256 < (g.E.length : Int) ∨ 16 < (g.C.length : Int)
  · rw [if_pos h0] at hv
    have hc : ((decide (64 < (g.N.length : Int)) || decide (256 < (g.E.length : Int))) || decide (16 < (g.C.length : Int))) = true := by
      simp only [Bool.or_eq_true, decide_eq_true_eq]
      omega
    simp only [vt24, VT.ok, Nd.holds, X.outs, X.ds, X.d, Op1.ev, Op2.ev, List.cons_append, List.nil_append, List.getD_cons_zero, List.getD_cons_succ, D.int_i, D.bool_b, D.lst_l, ite_b, ite_or, if_true, takeD1_0, hc]
    rw [hv]
  · rw [if_neg h0] at hv
    have p0 : prV0 [.i 0, .i (g.N.length : Int), .i 0, .s g.nm, .b g.dr, .l g.N, .l g.E, .l g.C] := ⟨_, g, 0, rfl, by omega, hmN⟩
    have p1 : ∀ v, prV1 [v, .i (g.C.length : Int), .i 0, .s g.nm, .b g.dr, .l g.N, .l g.E, .l g.C] := fun v => ⟨_, g, 0, rfl, by omega, by omega, fun k hk => by omega⟩
    have p2 : ∀ v, prV2 [v, .l g.E, .i (g.E.length : Int), .i 0, .s g.nm, .b g.dr, .l g.N, .l g.E, .l g.C] := fun v => ⟨_, g, 0, rfl, by omega, hmE⟩
    simp (disch := omega) only [vt24, VT.ok, Nd.holds, X.outs, X.ds, X.d, Op1.ev, Op2.ev, takeD_zero, takeD_cons, List.cons_append, List.nil_append, List.getD_cons_zero, List.getD_cons_succ, D.int_i, D.bool_b, D.lst_l, D.str_s, Bool.false_eq_true, implies_true, true_and, F37, R37, F12400, R12400, F12401, R12401, F12402, R12402, ↓reduceIte, dlt_f, nameD, cS, lpV0, lpV1, lpV2, Int.toNat_zero]
    cases h1 : isName g.nm
    · rw [h1] at hv
      simp only [Bool.not_false, if_true]
      rw [← hv]; rfl
    · rw [h1] at hv
      simp only [if_true, Bool.not_true, Bool.false_eq_true, if_false] at hv ⊢
      refine ⟨fun _ => p0, ?_⟩
      rcases errLp_two (nodeE g.N g.C) (.i 0) g.N.length with ⟨h2, h3⟩ | ⟨h2, _, h3⟩
      · rw [if_neg h2] at hv
        simp only [h3, takeD_zero, takeD_cons, List.getD_cons_zero, List.getD_cons_succ, D.int_i, ↓reduceIte, beq_t]
        rw [hv]
      · rw [if_pos h2] at hv
        simp only [h3, takeD_zero, takeD_cons, List.cons_append, List.nil_append, List.getD_cons_zero, List.getD_cons_succ, D.int_i]
        rw [if_neg (by decide)]
        refine ⟨fun _ => p1 _, ?_⟩
        rcases errLp_two (cluE g.N g.C) (.i 0) g.C.length with ⟨h4, h5⟩ | ⟨h4, _, h5⟩
        · rw [if_neg h4] at hv
          simp only [h5, takeD_zero, takeD_cons, List.cons_append, List.nil_append, List.getD_cons_zero, List.getD_cons_succ, D.int_i]
          rw [if_pos (by rfl), hv]
        · rw [if_pos h4] at hv
          simp only [h5, takeD_zero, takeD_cons, List.cons_append, List.nil_append, List.getD_cons_zero, List.getD_cons_succ, D.int_i]
          rw [if_neg (by decide)]
          refine ⟨fun _ => p2 _, ?_⟩
          rcases errLp_two (fun j => edgeE g.N (el g.E j)) (.i 0) g.E.length with ⟨h6, h7⟩ | ⟨h6, _, h7⟩
          · simp only [h7, takeD_zero, takeD_cons, List.getD_cons_zero, List.getD_cons_succ, D.int_i]
            rw [if_pos (by rfl), hv]
          · simp only [h7, takeD_zero, takeD_cons, List.getD_cons_zero, List.getD_cons_succ, D.int_i]
            rw [if_neg (by decide), ← hv, h6]
end Go.Proofs.Ytoajdhghecjdlaa.rv
namespace Go.Proofs.Ytoajdhghecjdlaa.rv
set_option maxRecDepth 10000
open Go.RV
theorem valid_parts {g : Gd} (h : validE g = 0) : (g.N.length ≤ 64 ∧ g.E.length ≤ 256 ∧ g.C.length ≤ 16) ∧ isName g.nm = true ∧ (∀ k, k < g.N.length → nodeE g.N g.C k = 0) ∧ (∀ k, k < g.C.length → cluE g.N g.C k = 0) ∧ ∀ k, k < g.E.length → edgeE g.N (el g.E k) = 0 := by
  unfold validE at h
  split at h
  · omega
  · split at h
    · split at h
      · rename_i h0 h1 h2
        split at h
        · rename_i h3
          exact ⟨by omega, h1, fe_ok.1 h2, fe_ok.1 h3, fe_ok.1 h⟩
        · omega
      · omega
    · omega
theorem node_cl {N C : List (List D)} {i : Nat} (h : nodeE N C i = 0) : -1 ≤ cI (el N i) 4 ∧ cI (el N i) 4 < C.length := by
  unfold nodeE at h
  split at h
  · split at h
    · omega
    · split at h
      · split at h
        · rename_i h1
          simp only [Bool.and_eq_true, Bool.not_eq_true', decide_eq_false_iff_not] at h1
          omega
        · omega
      · omega
  · omega
theorem valid_okV {g : Gd} (h : validE g = 0) : okV g := by
  obtain ⟨⟨h1, _, h3⟩, _, h4, h5, _⟩ := valid_parts h
  exact ⟨h1, h3, okC_of h5, fun v hv => node_cl (h4 v hv)⟩
theorem okV_at {g : Gd} (h : okV g) {c : Int} (h0 : -1 ≤ c) (h1 : c < g.C.length) : atC g.C c := ⟨h0, h1, h.2.1, h.2.2.1.mono (by omega)⟩
theorem valid_c {g : Gd} {c : Int} (h : ¬ (validE g = 0 ∧ -1 ≤ c ∧ c < g.C.length)) : ((!(validE g == 0) || decide (c < -1)) || decide ((g.C.length : Int) ≤ c)) = true := by
  simp only [Bool.or_eq_true, Bool.not_eq_true', beq_eq_false_iff_ne, decide_eq_true_eq]
  omega
theorem valid_c' {g : Gd} {c : Int} (h : validE g = 0 ∧ -1 ≤ c ∧ c < g.C.length) : ((!(validE g == 0) || decide (c < -1)) || decide ((g.C.length : Int) ≤ c)) = false := by
  simp only [Bool.or_eq_false_iff, Bool.not_eq_false', beq_iff_eq, decide_eq_false_iff_not]
  omega
theorem gOf_eq (g : Gd) (l : List D) : gOf (.s g.nm :: .b g.dr :: .l g.N :: .l g.E :: .l g.C :: l) = g := rfl
theorem m43 : Meets Try.prog 43 S43 (R 43) (F 43) := by
  refine meets_of_vt (pre := R) (Φ := F) mixed (sgAt_all (P := Try.prog) (pre := R) (Φ := F) (l := sg43) (List.forall_mem_cons.2 ⟨Meets.at (pre := R) (Φ := F) m24, List.forall_mem_cons.2 ⟨Meets.at (pre := R) (Φ := F) m58, (fun _ h => nomatch h)⟩⟩)) Try.func43 b43 n43 (loops_n 0 k43 fun k hk => by omega) e43 fun ds hf hq => ?_
  obtain ⟨g, ds', rfl, h5, _⟩ := fitsG hf.flat
  obtain ⟨x, rfl, hx⟩ := fits1 h5
  obtain ⟨c, rfl, _⟩ := wf_i64 hx
  by_cases h : validE g = 0 ∧ -1 ≤ c ∧ c < g.C.length
  · have hat : atC g.C c := okV_at (valid_okV h.1) h.2.1 h.2.2
    simp only [vt43, VT.ok, Nd.holds, X.outs, X.ds, X.d, Op1.ev, Op2.ev, takeD_zero, takeD_cons, List.cons_append, List.nil_append, List.getD_cons_zero, List.getD_cons_succ, D.int_i, D.bool_b, D.lst_l, ite_b, ite_or, Bool.false_eq_true, if_false, implies_true, true_and, and_true, F58, R58, F24, R24, F43, validD, gOf_eq, valid_c' h, depED, depE, depthD, if_pos h, cI, cL]
    exact fun _ => hat
  · simp only [vt43, VT.ok, Nd.holds, X.outs, X.ds, X.d, Op1.ev, Op2.ev, takeD_zero, takeD_cons, List.cons_append, List.nil_append, List.getD_cons_zero, List.getD_cons_succ, D.int_i, D.bool_b, D.lst_l, ite_b, ite_or, if_true, implies_true, and_true, takeD1_0, F58, R58, F24, R24, F43, validD, gOf_eq, valid_c h, depED, depE, if_neg h, cI]
end Go.Proofs.Ytoajdhghecjdlaa.rv
namespace Go.RV
theorem up_len (C : List (List D)) : ∀ (f : Nat) (c : Int), (up C f c).length ≤ f
  | 0, _ => Nat.le_refl _
  | f + 1, c => by
    rw [up]
    split
    · rw [List.length_cons]
      have := up_len C f (cI (el C c.toNat) 1)
      omega
    · simp
theorem depE_bd {g : Gd} {c : Int} (_h0 : -1 ≤ c) (h1 : c < 64) : 0 ≤ depE g c ∧ depE g c ≤ 65 := by
  unfold depE
  split
  · have := up_len g.C (c.toNat + 1) c
    unfold depth around
    omega
  · omega
theorem swp_all {p : Int → Prop} (h0 : p 0) {l : List Int} (h : ∀ c ∈ l, p c) (j : Nat) : ∀ c ∈ swp l j, p c := by
  have hg : ∀ i, p (l.getD i 0) := fun i => by
    by_cases hi : i < l.length
    · exact h _ (getD_mem 0 hi)
    · have e : l.getD i 0 = 0 := by simp [List.getD, List.getElem?_eq_none (by omega : l.length ≤ i)]
      rw [e]; exact h0
  intro c hc
  unfold swp at hc
  rcases List.mem_or_eq_of_mem_set hc with h1 | h1
  · rcases List.mem_or_eq_of_mem_set h1 with h2 | h2
    · exact h c h2
    · rw [h2]; exact hg _
  · rw [h1]; exact hg _
theorem bub_all {p : Int → Prop} (h0 : p 0) {k : Int → Int} : ∀ (j : Nat) (l : List Int), (∀ c ∈ l, p c) → ∀ c ∈ (bub k j l).2, p c
  | 0, l, h => h
  | j + 1, l, h => by
    rw [bub]
    split
    · exact bub_all h0 j _ (swp_all h0 h j)
    · exact h
theorem gOfC_clo (f : FuncId) (cts : List CT) (g : Gd) : gOfC (cloG f cts g) = g := rfl
theorem isrt_end {k : Int → Int} {n i : Nat} (h : n ≤ i) (l : List Int) : isrt k n i l = l := by
  unfold isrt foldN
  rw [List.drop_eq_nil_of_le (by simpa using h)]
  rfl
theorem isrt_next {k : Int → Int} {n i : Nat} (h : i < n) (l : List Int) : isrt k n i l = isrt k n (i + 1) (bub k i l).2 := by
  unfold isrt
  rw [fold_next h]
theorem idI_len (n : Nat) : (idI n).length = n := by simp [idI]
theorem dep_ok {g : Gd} (hv : validE g = 0) : ∀ x ∈ idI g.C.length, 1 ≤ kD g x ∧ kD g x ≤ 6 := by
  intro x hx
  unfold idI at hx
  rw [List.mem_map] at hx
  obtain ⟨i, hi, rfl⟩ := hx
  rw [List.mem_range] at hi
  have hc := (Go.Proofs.Ytoajdhghecjdlaa.rv.valid_parts hv).2.2.2.1 i hi
  unfold kD depE
  rw [if_pos ⟨hv, by omega, by omega⟩]
  refine ⟨depth_pos _ (by omega), ?_⟩
  unfold cluE at hc
  split at hc
  · split at hc
    · omega
    · split at hc
      · omega
      · split at hc
        · omega
        · omega
  · omega
theorem fil_coll (p : Int → Bool) (n : Nat) : collN (fun i => if p (i : Int) = true then [(i : Int)] else []) n 0 = (idI n).filter p := by
  unfold collN idI
  rw [List.drop_zero]
  generalize List.range n = l
  induction l with
  | nil => rfl
  | cons a l ih =>
    rw [List.flatMap_cons, ih, List.map_cons, List.filter_cons]
    split <;> simp
theorem ord_byKey (g : Gd) : ordD g = byKey (kD g) (idI g.C.length) 6 := by
  unfold ordD
  have e : ∀ d : Nat, collN (fun i => if (depE g (i : Int) == (d : Int)) = true then [(i : Int)] else []) g.C.length 0 = (idI g.C.length).filter fun x => kD g x == (d : Int) := fun d => fil_coll (fun x => depE g x == (d : Int)) _
  have e2 : (List.range 7).drop 1 = [1, 2, 3, 4, 5, 6] := rfl
  unfold collN at e ⊢
  rw [e2]
  simp only [List.flatMap_cons, List.flatMap_nil, e, byKey, List.nil_append, List.append_nil, List.append_assoc]
theorem srt_ord {g : Gd} (hv : validE g = 0) : isrt (kD g) g.C.length 1 (idI g.C.length) = ordD g := by
  rw [ord_byKey, ← isrt_all (dep_ok hv), idI_len]
end Go.RV
namespace Go.Proofs.Ytoajdhghecjdlaa.rv
set_option maxRecDepth 10000
open Go.RV
theorem m42 : Meets Try.prog 42 S42 (R 42) (F 42) := by
  refine meets_of_vt (pre := R) (Φ := F) mixed (sgAt_all (P := Try.prog) (pre := R) (Φ := F) (l := sg42) (List.forall_mem_cons.2 ⟨Meets.at (pre := R) (Φ := F) m43, (fun _ h => nomatch h)⟩)) Try.func42 b42 n42 (loops_n 0 k42 fun k hk => by omega) e42 fun ds hf hq => ?_
  obtain ⟨g, a, b, rfl, hv, ha, hb⟩ : prClp ds := hq
  have k1 := depE_bd (g := g) ha.1 ha.2
  have k2 := depE_bd (g := g) hb.1 hb.2
  have e1 : ∀ c : Int, depED [.s g.nm, .b g.dr, .l g.N, .l g.E, .l g.C, .i c] = [.i (depE g c)] := fun _ => rfl
  have e2 : IntKind.i64.wrap (depE g a - depE g b) = depE g a - depE g b := w64 (by omega)
  simp only [vt42, VT.ok, Nd.holds, X.outs, X.ds, X.d, Op2.ev, takeD_zero, takeD_cons, List.cons_append, List.nil_append, List.getD_cons_zero, List.getD_cons_succ, D.int_i, D.bool_b, implies_true, true_and, F43, R43, F42, D.ptd_p, Gd.ds, e1, e2]
  rfl
theorem m24004 : Meets Try.prog 24004 S24004 (R 24004) (F 24004) := by
  refine meets_dyn (by decide) rfl fun d ds hf hp => ?_
  obtain ⟨g, a, b, e, hv, ha, hb⟩ : dpDep 42 ctsG (d :: ds) := hp
  cases e
  exact ⟨42, [.pt ctsG], [.p g.ds], S42, _, F 42, rfl, by decide, m42, rfl, rfl, ⟨g, a, b, rfl, hv, ha, hb⟩, rfl⟩
theorem loopM69_1 : LoopMeets Try.prog F (R L69_1.key) L69_1 lb69_1 := by
  refine loop_meets (pre := R) mixed (sgAt_all (P := Try.prog) (pre := R) (Φ := F) (l := sg69) (List.forall_mem_cons.2 ⟨Meets.at (pre := R) (Φ := F) m24004, (fun _ h => nomatch h)⟩)) (loops_n 0 lk69_1 fun k hk => by omega) L69_1 (fun ρ => (ρ.getD 2 default).int.toNat) le69_1 fun ρ _ hq => ?_
  obtain ⟨g, l, j, rfl, hj, hv, hl, hb⟩ : prSr1 42 ctsG ρ := hq
  have hlp : ∀ (l : List Int) (j : Nat), lpSr1 [.i 0, cloG 42 ctsG g, .i (j : Int), .l (l.map encI)] = [.i 0, .i ((bub (kD g) j l).1 : Int), .l ((bub (kD g) j l).2.map encI)] := fun l j => by
    have e : lpSr1 [.i 0, cloG 42 ctsG g, .i (j : Int), .l (l.map encI)] = [.i 0, .i ((bub (kD g) j (lsI (l.map encI))).1 : Int), .l ((bub (kD g) j (lsI (l.map encI))).2.map encI)] := rfl
    rw [e, lsI_enc]
  cases j with
  | zero =>
    have c0 : decide ((0 : Int) < ((0 : Nat) : Int)) = false := rfl
    simp only [rt69_1, VT.ok, Nd.holds, X.outs, X.ds, X.d, Op1.ev, Op2.ev, List.cons_append, List.nil_append, List.getD_cons_zero, List.getD_cons_succ, D.int_i, D.bool_b, D.lst_l, Int.toNat_natCast, List.length_map, Bool.false_eq_true, if_false, true_and, false_implies, takeD1_0, c0]
    refine round_exit (by omega) ?_
    show lpSr1 _ = _
    rw [hlp]
    rfl
  | succ j =>
    have eX : (l.map encI).getD (j + 1) [] = [.i (l.getD (j + 1) 0)] := rowI hj
    have eY : (l.map encI).getD j [] = [.i (l.getD j 0)] := rowI (by omega)
    have eZ : ((l.set (j + 1) (l.getD j 0)).map encI).getD j [] = [.i ((l.set (j + 1) (l.getD j 0)).getD j 0)] := rowI (by rw [List.length_set]; omega)
    have hx := hb _ (getD_mem 0 hj)
    have hy := hb _ (getD_mem 0 (by omega : j < l.length))
    have c0 : decide ((0 : Int) < ((j + 1 : Nat) : Int)) = true := decide_eq_true (by omega)
    have c1 : decide ((0 : Int) ≤ ((j + 1 : Nat) : Int)) = true := decide_eq_true (by omega)
    have c2 : decide (((j + 1 : Nat) : Int) < (l.length : Int)) = true := decide_eq_true (by omega)
    have c3 : IntKind.i64.wrap (((j + 1 : Nat) : Int) - 1) = (j : Int) := by rw [w64 (by omega)]; omega
    have c4 : decide ((0 : Int) ≤ (j : Int)) = true := decide_eq_true (by omega)
    have c5 : decide ((j : Int) < (l.length : Int)) = true := decide_eq_true (by omega)
    have hdy : dyDep [cloG 42 ctsG g, .i (l.getD (j + 1) 0), .i (l.getD j 0)] = [.i (kD g (l.getD (j + 1) 0) - kD g (l.getD j 0))] := rfl
    have hdp : dpDep 42 ctsG [cloG 42 ctsG g, .i (l.getD (j + 1) 0), .i (l.getD j 0)] := ⟨g, _, _, rfl, hv, hx, hy⟩
    simp only [rt69_1, VT.ok, Nd.holds, X.outs, X.ds, X.d, Op1.ev, Op2.ev, takeD_zero, takeD_cons, List.cons_append, List.nil_append, List.getD_cons_zero, List.getD_cons_succ, D.int_i, D.bool_b, D.lst_l, Int.toNat_natCast, List.length_map, if_true, implies_true, true_and, F24004, R24004, c0, c1, c2, c3, c4, c5, eX, eY, hdy, splI, setI, eZ, List.length_set]
    refine ⟨fun _ => hdp, ?_⟩
    by_cases hk : kD g (l.getD (j + 1) 0) < kD g (l.getD j 0)
    · rw [decide_eq_true (by omega : kD g (l.getD (j + 1) 0) - kD g (l.getD j 0) < 0), if_pos rfl]
      refine round_next ⟨⟨g, swp l j, j, rfl, by rw [swp_len]; omega, hv, by rw [swp_len]; exact hl, swp_all (p := fun c => -1 ≤ c ∧ c < 64) (by omega) hb j⟩, ?_, ?_⟩
      · show ((j : Nat) : Int).toNat < ((j + 1 : Nat) : Int).toNat
        omega
      · show lpSr1 [.i 0, cloG 42 ctsG g, .i (j : Int), .l ((swp l j).map encI)] = lpSr1 [.i 0, cloG 42 ctsG g, .i ((j + 1 : Nat) : Int), .l (l.map encI)]
        rw [hlp, hlp, bub, if_pos hk]
    · rw [decide_eq_false (by omega : ¬ kD g (l.getD (j + 1) 0) - kD g (l.getD j 0) < 0), if_neg (by decide)]
      refine round_exit (by omega) ?_
      show lpSr1 _ = _
      rw [hlp, bub, if_neg hk]
theorem loopM69_0 : LoopMeets Try.prog F (R L69_0.key) L69_0 lb69_0 := by
  refine loop_meets (pre := R) mixed (sgAt_all (P := Try.prog) (pre := R) (Φ := F) (l := sg69) (List.forall_mem_cons.2 ⟨Meets.at (pre := R) (Φ := F) m24004, (fun _ h => nomatch h)⟩)) (loops_n 1 lk69_0 fun k hk => match k, hk with | 0, _ => by rw [li69_0_0]; exact loop_this lf69_1 loopM69_1) L69_0 (fun ρ => ((ρ.getD 1 default).int - (ρ.getD 3 default).int).toNat) le69_0 fun ρ _ hq => ?_
  obtain ⟨g, l, j, rfl, hj, hv, hl, hb⟩ : prSr0 42 ctsG ρ := hq
  have hlp : ∀ (l : List Int) (n j : Nat), lpSr0 [.i 0, .i (n : Int), cloG 42 ctsG g, .i (j : Int), .l (l.map encI)] = [.i 0, .i (max (n : Int) (j : Int)), .l ((isrt (kD g) n j l).map encI)] := fun l n j => by
    have e : lpSr0 [.i 0, .i (n : Int), cloG 42 ctsG g, .i (j : Int), .l (l.map encI)] = [.i 0, .i (max (n : Int) (j : Int)), .l ((isrt (kD g) n j (lsI (l.map encI))).map encI)] := rfl
    rw [e, lsI_enc]
  by_cases hlt : j < l.length
  · have h1 : lpSr1 [.i 0, cloG 42 ctsG g, .i (j : Int), .l (l.map encI)] = [.i 0, .i ((bub (kD g) j l).1 : Int), .l ((bub (kD g) j l).2.map encI)] := by
      have e : lpSr1 [.i 0, cloG 42 ctsG g, .i (j : Int), .l (l.map encI)] = [.i 0, .i ((bub (kD g) j (lsI (l.map encI))).1 : Int), .l ((bub (kD g) j (lsI (l.map encI))).2.map encI)] := rfl
      rw [e, lsI_enc]
    have hp : prSr1 42 ctsG [.i 0, cloG 42 ctsG g, .i (j : Int), .l (l.map encI)] := ⟨g, l, j, rfl, hlt, hv, hl, hb⟩
    have c0 : decide ((j : Int) < (l.length : Int)) = true := decide_eq_true (by omega)
    have c1 : IntKind.i64.wrap ((j : Int) + 1) = ((j + 1 : Nat) : Int) := nat_wrap (by omega)
    simp only [rt69_0, VT.ok, Nd.holds, X.outs, X.ds, X.d, Op2.ev, takeD_zero, takeD_cons, List.cons_append, List.nil_append, List.getD_cons_zero, List.getD_cons_succ, D.int_i, D.bool_b, if_true, F16900, R16900, c0, c1, h1]
    refine ⟨fun _ => hp, ?_⟩
    refine round_next ⟨⟨g, (bub (kD g) j l).2, j + 1, by rw [bub_len]; rfl, by omega, hv, by rw [bub_len]; exact hl, bub_all (p := fun c => -1 ≤ c ∧ c < 64) (by omega) j l hb⟩, ?_, ?_⟩
    · show ((l.length : Int) - ((j + 1 : Nat) : Int)).toNat < ((l.length : Int) - (j : Int)).toNat
      omega
    · show lpSr0 [.i 0, .i (l.length : Int), cloG 42 ctsG g, .i ((j + 1 : Nat) : Int), .l ((bub (kD g) j l).2.map encI)] = lpSr0 [.i 0, .i (l.length : Int), cloG 42 ctsG g, .i (j : Int), .l (l.map encI)]
      rw [hlp, hlp, isrt_next hlt, Int.max_eq_left (by omega), Int.max_eq_left (by omega)]
  · have c0 : decide ((j : Int) < (l.length : Int)) = false := decide_eq_false (by omega)
    simp only [rt69_0, VT.ok, Nd.holds, X.outs, X.ds, X.d, Op2.ev, List.cons_append, List.nil_append, List.getD_cons_zero, List.getD_cons_succ, D.int_i, D.bool_b, Bool.false_eq_true, if_false, c0]
    refine round_exit (by omega) ?_
    show lpSr0 [.i 0, .i (l.length : Int), cloG 42 ctsG g, .i (j : Int), .l (l.map encI)] = _
    rw [hlp, isrt_end (by omega), Int.max_eq_right (by omega)]
theorem srt_of (g : Gd) (f : FuncId) (cts : List CT) (l : List Int) : srt1 (cloG f cts g) (l.map encI) = .l ((isrt (kD g) l.length 1 l).map encI) := by
  unfold srt1
  rw [gOfC_clo, lsI_enc, List.length_map]
theorem m69 : MeetsRow Try.prog 69 S69 (qRow S69) (R 69) (F 69) := by
  refine meets_row (pre := R) (Φ := F) mixed (sgAt_all (P := Try.prog) (pre := R) (Φ := F) (l := sg69) (List.forall_mem_cons.2 ⟨Meets.at (pre := R) (Φ := F) m24004, (fun _ h => nomatch h)⟩)) Try.func69 b69 n69 (loops_n 2 k69 fun k hk => match k, hk with | 0, _ => loop_this lf69_0 loopM69_0 | 1, _ => loop_this lf69_1 loopM69_1) e69 rfl rfl rfl fun ds hf hq => ?_
  obtain ⟨g, l, rfl, hs⟩ : prIns 42 ctsG ds := hq
  have hval : insD [.l (l.map encI), .i 0, .i (l.length : Int), cloG 42 ctsG g] = [.l ((isrt (kD g) l.length 1 l).map encI)] := by
    show [srt1 (cloG 42 ctsG g) (l.map encI)] = _
    rw [srt_of]
  rw [show F 69 = insD from rfl, hval]
  have c1 : IntKind.i64.wrap ((0 : Int) + 1) = ((1 : Nat) : Int) := w64 (by omega)
  have hlp : lpSr0 [.i 0, .i (l.length : Int), cloG 42 ctsG g, .i ((1 : Nat) : Int), .l (l.map encI)] = [.i 0, .i (max (l.length : Int) ((1 : Nat) : Int)), .l ((isrt (kD g) l.length 1 l).map encI)] := by
    have e : lpSr0 [.i 0, .i (l.length : Int), cloG 42 ctsG g, .i ((1 : Nat) : Int), .l (l.map encI)] = [.i 0, .i (max (l.length : Int) ((1 : Nat) : Int)), .l ((isrt (kD g) l.length 1 (lsI (l.map encI))).map encI)] := rfl
    rw [e, lsI_enc]
  have hp : prSr0 42 ctsG [.i 0, .i (l.length : Int), cloG 42 ctsG g, .i ((1 : Nat) : Int), .l (l.map encI)] := ⟨g, l, 1, rfl, Nat.le_refl _, hs⟩
  simp only [vt69, VT.ok, Nd.holds, X.outs, X.ds, X.d, Op2.ev, takeD_zero, takeD_cons, List.cons_append, List.nil_append, List.getD_cons_zero, List.getD_cons_succ, D.int_i, D.bool_b, and_true, F16901, R16901, c1, hlp]
  exact fun _ => hp
theorem m70 : MeetsRow Try.prog 70 S70 (qRow S70) (R 70) (F 70) := meetsRow_none Try.func70 b70 n70
theorem loopM59_0 : LoopMeets Try.prog F (R L59_0.key) L59_0 lb59_0 := by
  refine loop_meets (pre := R) mixed (sgAt_all (P := Try.prog) (pre := R) (Φ := F) (l := sg59) (List.forall_mem_cons.2 ⟨MeetsRow.at (pre := R) (Φ := F) m69, List.forall_mem_cons.2 ⟨MeetsRow.at (pre := R) (Φ := F) m70, (fun _ h => nomatch h)⟩⟩)) (loops_n 0 lk59_0 fun k hk => by omega) L59_0 (fun ρ => 0) le59_0 fun ρ _ hq => ?_
  obtain ⟨n, c, x2, x3, xs, rfl, hn⟩ : prZ0 ρ := hq
  have c0 : decide ((20 : Int) ≤ (n : Int)) = false := decide_eq_false (by omega)
  simp only [rt59_0, VT.ok, Nd.holds, X.outs, X.ds, X.d, Op2.ev, List.cons_append, List.nil_append, List.getD_cons_zero, List.getD_cons_succ, D.int_i, D.bool_b, Bool.false_eq_true, if_false, takeD1_0, c0]
  exact round_exit (by omega) rfl
theorem loopM59_2 : LoopMeets Try.prog F (R L59_2.key) L59_2 lb59_2 := by
  refine loop_meets (pre := R) mixed (sgAt_all (P := Try.prog) (pre := R) (Φ := F) (l := sg59) (List.forall_mem_cons.2 ⟨MeetsRow.at (pre := R) (Φ := F) m69, List.forall_mem_cons.2 ⟨MeetsRow.at (pre := R) (Φ := F) m70, (fun _ h => nomatch h)⟩⟩)) (loops_n 0 lk59_2 fun k hk => by omega) L59_2 (fun ρ => 0) le59_2 fun ρ _ hq => ?_
  exact (show False from hq).elim
theorem loopM59_1 : LoopMeets Try.prog F (R L59_1.key) L59_1 lb59_1 := by
  refine loop_meets (pre := R) mixed (sgAt_all (P := Try.prog) (pre := R) (Φ := F) (l := sg59) (List.forall_mem_cons.2 ⟨MeetsRow.at (pre := R) (Φ := F) m69, List.forall_mem_cons.2 ⟨MeetsRow.at (pre := R) (Φ := F) m70, (fun _ h => nomatch h)⟩⟩)) (loops_n 1 lk59_1 fun k hk => match k, hk with | 0, _ => by rw [li59_1_0]; exact loop_this lf59_2 loopM59_2) L59_1 (fun ρ => 0) le59_1 fun ρ _ hq => ?_
  obtain ⟨n, c, xs, rfl, hn⟩ : prZ1 ρ := hq
  have c0 : decide ((20 : Int) < (n : Int)) = false := decide_eq_false (by omega)
  simp only [rt59_1, VT.ok, Nd.holds, X.outs, X.ds, X.d, Op2.ev, List.cons_append, List.nil_append, List.getD_cons_zero, List.getD_cons_succ, D.int_i, D.bool_b, Bool.false_eq_true, if_false, c0]
  exact round_exit (by omega) rfl
theorem m59 : MeetsRow Try.prog 59 S59 (qRow S59) (R 59) (F 59) := by
  refine meets_row (pre := R) (Φ := F) mixed (sgAt_all (P := Try.prog) (pre := R) (Φ := F) (l := sg59) (List.forall_mem_cons.2 ⟨MeetsRow.at (pre := R) (Φ := F) m69, List.forall_mem_cons.2 ⟨MeetsRow.at (pre := R) (Φ := F) m70, (fun _ h => nomatch h)⟩⟩)) Try.func59 b59 n59 (loops_n 3 k59 fun k hk => match k, hk with | 0, _ => loop_this lf59_0 loopM59_0 | 1, _ => loop_this lf59_1 loopM59_1 | 2, _ => loop_this lf59_2 loopM59_2) e59 rfl rfl rfl fun ds hf hq => ?_
  obtain ⟨g, l, rfl, hs⟩ : prStb 42 ctsG ds := hq
  have hn : l.length < 20 := by have := hs.2.1; omega
  have hz0 : ∀ x2 x3 x4 x5 x6 : D, lpZ0 [x2, x3, x4, x5, x6, .l (l.map encI)] = [.i 0, x5, x6, .l (l.map encI)] := fun _ _ _ _ _ => rfl
  have hz1 : ∀ (x2 x3 x4 : D) (xs : List (List D)), lpZ1 [x2, x3, x4, .l xs] = [.i 0, x4, .l xs] := fun _ _ _ _ => rfl
  have hval : stbD [.l (l.map encI), .i (l.length : Int), cloG 42 ctsG g] = [.l ((isrt (kD g) l.length 1 l).map encI)] := by
    show [srt1 (cloG 42 ctsG g) (l.map encI)] = _
    rw [srt_of]
  have hins : insD [.l (l.map encI), .i 0, .i (l.length : Int), cloG 42 ctsG g] = [.l ((isrt (kD g) l.length 1 l).map encI)] := by
    show [srt1 (cloG 42 ctsG g) (l.map encI)] = _
    rw [srt_of]
  have hp0 : prZ0 [.i (l.length : Int), cloG 42 ctsG g, .i 20, .i 0, .i 20, .l (l.map encI)] := ⟨l.length, _, _, _, _, rfl, hn⟩
  have hp1 : prZ1 [.i (l.length : Int), cloG 42 ctsG g, .i 20, .l ((isrt (kD g) l.length 1 l).map encI)] := ⟨l.length, _, _, rfl, hn⟩
  have hpi : prIns 42 ctsG [.l (l.map encI), .i 0, .i (l.length : Int), cloG 42 ctsG g] := ⟨g, l, rfl, hs⟩
  rw [show F 59 = stbD from rfl, hval]
  simp only [vt59, VT.ok, Nd.holds, X.outs, X.ds, X.d, takeD_zero, takeD_cons, List.cons_append, List.nil_append, List.getD_cons_zero, List.getD_cons_succ, D.bool_b, and_true, F69, R69, F15900, R15900, F15902, R15902, hz0, hins, hz1]
  exact ⟨fun _ => hp0, fun _ => hpi, fun _ => hp1⟩
theorem m41 : MeetsRow Try.prog 41 S41 (qRow S41) (R 41) (F 41) := by
  refine meets_row (pre := R) (Φ := F) mixed (sgAt_all (P := Try.prog) (pre := R) (Φ := F) (l := sg41) (List.forall_mem_cons.2 ⟨MeetsRow.at (pre := R) (Φ := F) m59, (fun _ h => nomatch h)⟩)) Try.func41 b41 n41 (loops_n 0 k41 fun k hk => by omega) e41 rfl rfl rfl fun ds hf hq => ?_
  obtain ⟨g, l, rfl, hs⟩ : prSt 42 ctsG ds := hq
  have hpi : prStb 42 ctsG [.l (l.map encI), .i (l.length : Int), cloG 42 ctsG g] := ⟨g, l, rfl, hs⟩
  simp only [vt41, VT.ok, Nd.holds, X.outs, X.ds, X.d, Op1.ev, List.cons_append, List.nil_append, List.getD_cons_zero, List.getD_cons_succ, D.bool_b, D.lst_l, List.length_map, takeD1_0, F59, R59, F41]
  exact ⟨fun _ => hpi, rfl⟩
theorem idI_snoc (j : Nat) : (idI j).map encI ++ [[.i (j : Int)]] = (idI (j + 1)).map encI := by
  simp [idI, List.range_succ, encI]
theorem loopM25_0 : LoopMeets Try.prog F (R L25_0.key) L25_0 lb25_0 := by
  refine loop_meets (pre := R) mixed (sgAt_all (P := Try.prog) (pre := R) (Φ := F) (l := sg25) (List.forall_mem_cons.2 ⟨MeetsRow.at (pre := R) (Φ := F) m41, (fun _ h => nomatch h)⟩)) (loops_n 0 lk25_0 fun k hk => by omega) L25_0 (fun ρ => ((ρ.getD 0 default).int - (ρ.getD 1 default).int).toNat) le25_0 fun ρ _ hq => ?_
  obtain ⟨n, j, rfl, hj, hn⟩ : prId ρ := hq
  by_cases hlt : j < n
  · have c0 : decide ((j : Int) < (n : Int)) = true := decide_eq_true (by omega)
    have c1 : IntKind.i64.wrap ((j : Int) + 1) = ((j + 1 : Nat) : Int) := nat_wrap (by omega)
    have c2 : decide ((((idI (j + 1)).length : Nat) : Int) ≤ 17592186044416) = true := decide_eq_true (by rw [idI_len]; omega)
    simp only [rt25_0, VT.ok, Nd.holds, X.ds, X.d, Op1.ev, Op2.ev, List.getD_cons_zero, List.getD_cons_succ, D.int_i, D.bool_b, D.lst_l, List.length_map, if_true, implies_true, true_and, c0, c1, idI_snoc, c2]
    refine round_next ⟨⟨n, j + 1, rfl, by omega, hn⟩, ?_, rfl⟩
    show ((n : Int) - ((j + 1 : Nat) : Int)).toNat < ((n : Int) - (j : Int)).toNat
    omega
  · have hj' : j = n := by omega
    subst hj'
    have c0 : decide ((j : Int) < (j : Int)) = false := decide_eq_false (by omega)
    simp only [rt25_0, VT.ok, Nd.holds, X.ds, X.d, Op1.ev, Op2.ev, List.getD_cons_zero, List.getD_cons_succ, D.int_i, D.bool_b, D.lst_l, Bool.false_eq_true, if_false, c0]
    exact round_exit (by omega) rfl
theorem m25 : Meets Try.prog 25 S25 (R 25) (F 25) := by
  refine meets_of_vt (pre := R) (Φ := F) mixed (sgAt_all (P := Try.prog) (pre := R) (Φ := F) (l := sg25) (List.forall_mem_cons.2 ⟨MeetsRow.at (pre := R) (Φ := F) m41, (fun _ h => nomatch h)⟩)) Try.func25 b25 n25 (loops_n 1 k25 fun k hk => match k, hk with | 0, _ => loop_this lf25_0 loopM25_0) e25 fun ds hf hq => ?_
  obtain ⟨g, ds', rfl, h5, _⟩ := fitsG hf.flat
  have e0 := fits0 h5
  subst e0
  have hv : validE g = 0 := hq
  have hC := (valid_parts hv).1.2.2
  have hval : grpsD [.s g.nm, .b g.dr, .l g.N, .l g.E, .l g.C] = [.l ((ordD g).map encI)] := rfl
  have hp : prId [.i (g.C.length : Int), .i 0, .l []] := ⟨g.C.length, 0, rfl, by omega, hC⟩
  have hlp : lpId [.i (g.C.length : Int), .i 0, .l []] = [.i 0, .i (g.C.length : Int), .l ((idI g.C.length).map encI)] := rfl
  have hclo : D.c 42 [.pt ctsG] [.p [.s g.nm, .b g.dr, .l g.N, .l g.E, .l g.C]] = cloG 42 ctsG g := rfl
  have hps : prSt 42 ctsG [.l ((idI g.C.length).map encI), cloG 42 ctsG g] := ⟨g, idI g.C.length, rfl, hv, by rw [idI_len]; exact hC, fun c hc => by
    unfold idI at hc
    rw [List.mem_map] at hc
    obtain ⟨i, hi, rfl⟩ := hc
    rw [List.mem_range] at hi
    omega⟩
  have hsr : srtD [.l ((idI g.C.length).map encI), cloG 42 ctsG g] = [.l ((ordD g).map encI)] := by
    show [srt1 (cloG 42 ctsG g) ((idI g.C.length).map encI)] = _
    rw [srt_of, idI_len, srt_ord hv]
  rw [show F 25 = grpsD from rfl, show (D.s g.nm :: .b g.dr :: .l g.N :: .l g.E :: .l g.C :: []) = [.s g.nm, .b g.dr, .l g.N, .l g.E, .l g.C] from rfl, hval]
  simp only [vt25, VT.ok, Nd.holds, X.outs, X.ds, X.d, Op1.ev, takeD_zero, takeD_cons, List.cons_append, List.nil_append, List.getD_cons_zero, List.getD_cons_succ, D.bool_b, D.lst_l, takeD1_0, F41, R41, F12500, R12500, hlp]
  refine ⟨fun _ => hp, ?_⟩
  show (True → prSt 42 ctsG [.l ((idI g.C.length).map encI), cloG 42 ctsG g]) ∧ srtD [.l ((idI g.C.length).map encI), cloG 42 ctsG g] = _
  exact ⟨fun _ => hps, hsr⟩
end Go.Proofs.Ytoajdhghecjdlaa.rv
namespace Go.RV
theorem lItem_len (N : List (List D)) (k : Nat) (b : List (List D)) (i : Nat) : (lItem N k b i).length ≤ 1 := by unfold lItem; split <;> simp
theorem mItem_len (E b : List (List D)) (i : Nat) : (mItem E b i).length ≤ 1 := by unfold mItem; split <;> simp
end Go.RV
namespace Go.Proofs.Ytoajdhghecjdlaa.rv
set_option maxRecDepth 10000
open Go.RV
theorem loopM12_0 : LoopMeets Try.prog F (R L12_0.key) L12_0 lb12_0 := by
  refine loop_meets (pre := R) mixed (sgAt_all (P := Try.prog) (pre := R) (Φ := F) (l := sg12) (List.forall_mem_cons.2 ⟨Meets.at (pre := R) (Φ := F) m24, List.forall_mem_cons.2 ⟨Meets.at (pre := R) (Φ := F) m25, List.forall_mem_cons.2 ⟨Meets.at (pre := R) (Φ := F) m26, List.forall_mem_cons.2 ⟨Meets.at (pre := R) (Φ := F) m27, List.forall_mem_cons.2 ⟨Meets.at (pre := R) (Φ := F) m28, (fun _ h => nomatch h)⟩⟩⟩⟩⟩)) (loops_n 0 lk12_0 fun k hk => by omega) L12_0 (fun ρ => ((ρ.getD 1 default).int - (ρ.getD 2 default).int).toNat) le12_0 fun ρ _ hq => ?_
  obtain ⟨x3, x5, x6, x7, x8, x9, x10, x11, x12, x13, x14, x15, x16, x17, o, c, acc, j, rfl, hj, hm, ha, ho⟩ : prB0 ρ := hq
  by_cases hlt : j < o.length
  · have hn : ∀ acc' : List (List D), acc ++ [gItem c (cI (el o j) 0)] = acc' → RoundOk F (R L12_0.key) (fun ρ => ((ρ.getD 1 default).int - (ρ.getD 2 default).int).toNat) L12_0 [.l o, .i (o.length : Int), .i (j : Int), x3, .l c, x5, x6, x7, x8, x9, x10, x11, x12, x13, x14, x15, x16, x17, .l acc] [.i (-1), .i ((j + 1 : Nat) : Int), .l acc'] := fun acc' h => by
      subst h
      refine round_next ⟨⟨x3, x5, x6, x7, x8, x9, x10, x11, x12, x13, x14, x15, x16, x17, o, c, acc ++ [gItem c (cI (el o j) 0)], j + 1, rfl, by omega, hm, by rw [List.length_append]; simp only [List.length_cons, List.length_nil]; omega, ho⟩, ?_, ?_⟩
      · show ((o.length : Int) - ((j + 1 : Nat) : Int)).toNat < ((o.length : Int) - (j : Int)).toNat
        omega
      · show lpG (fun i => [gItem c (cI (el o i) 0)]) o.length (j + 1) (acc ++ [gItem c (cI (el o j) 0)]) = lpG (fun i => [gItem c (cI (el o i) 0)]) o.length j acc
        unfold lpG
        rw [coll_next (f := (fun i => [gItem c (cI (el o i) 0)])) hlt acc]
    have c0 : decide ((j : Int) < (o.length : Int)) = true := decide_eq_true (by omega)
    have c1 : decide ((0 : Int) ≤ (j : Int)) = true := decide_eq_true (by omega)
    have c2 : IntKind.i64.wrap ((j : Int) + 1) = ((j + 1 : Nat) : Int) := nat_wrap (by omega)
    have c4 : ∀ z : List D, decide ((((acc ++ [z]).length : Nat) : Int) ≤ 1599289640401) = true := fun z => decide_eq_true (by rw [List.length_append, List.length_cons, List.length_nil]; omega)
    obtain ⟨e0, e1, e2⟩ := ho j hlt
    have e0' : (o.getD j []).getD 0 default = .i (cI (el o j) 0) := e0
    have hg : gItem c (cI (el o j) 0) = gItem c (cI (el o j) 0) := rfl
    generalize cI (el o j) 0 = i at e0' e1 e2 hn
    have c5 : decide ((0 : Int) ≤ i) = true := decide_eq_true e1
    have c6 : decide (i < (c.length : Int)) = true := decide_eq_true e2
    simp only [rt12_0, VT.ok, Nd.holds, X.ds, X.d, Op1.ev, Op2.ev, List.getD_cons_zero, List.getD_cons_succ, D.int_i, D.bool_b, D.lst_l, Int.toNat_natCast, if_true, implies_true, true_and, c0, c1, c2, c4, e0', c5, c6]
    exact hn _ rfl
  · have hj' : o.length = j := by omega
    subst hj'
    have c0 : decide ((o.length : Int) < (o.length : Int)) = false := decide_eq_false (by omega)
    simp only [rt12_0, VT.ok, Nd.holds, X.ds, X.d, Op1.ev, Op2.ev, List.getD_cons_zero, List.getD_cons_succ, D.int_i, D.bool_b, D.lst_l, Int.toNat_natCast, Bool.false_eq_true, if_false, c0]
    refine round_exit (by omega) ?_
    show lpG (fun i => [gItem c (cI (el o i) 0)]) o.length o.length acc = _
    unfold lpG
    rw [coll_end]
    try rfl
theorem loopM12_1 : LoopMeets Try.prog F (R L12_1.key) L12_1 lb12_1 := by
  refine loop_meets (pre := R) mixed (sgAt_all (P := Try.prog) (pre := R) (Φ := F) (l := sg12) (List.forall_mem_cons.2 ⟨Meets.at (pre := R) (Φ := F) m24, List.forall_mem_cons.2 ⟨Meets.at (pre := R) (Φ := F) m25, List.forall_mem_cons.2 ⟨Meets.at (pre := R) (Φ := F) m26, List.forall_mem_cons.2 ⟨Meets.at (pre := R) (Φ := F) m27, List.forall_mem_cons.2 ⟨Meets.at (pre := R) (Φ := F) m28, (fun _ h => nomatch h)⟩⟩⟩⟩⟩)) (loops_n 0 lk12_1 fun k hk => by omega) L12_1 (fun ρ => ((ρ.getD 0 default).int - (ρ.getD 1 default).int).toNat) le12_1 fun ρ _ hq => ?_
  obtain ⟨x2, x3, x5, x6, x7, x8, x9, x10, x11, x12, x13, x14, x15, x16, n, r, acc, j, rfl, hj, hm, ha, hl, hp⟩ : prB1 ρ := hq
  by_cases hlt : j < n
  · have hn : ∀ acc' : List (List D), acc ++ [rItem r j] = acc' → RoundOk F (R L12_1.key) (fun ρ => ((ρ.getD 0 default).int - (ρ.getD 1 default).int).toNat) L12_1 [.i (n : Int), .i (j : Int), x2, x3, .l r, x5, x6, x7, x8, x9, x10, x11, x12, x13, x14, x15, x16, .l acc] [.i (-1), .i ((j + 1 : Nat) : Int), .l acc'] := fun acc' h => by
      subst h
      refine round_next ⟨⟨x2, x3, x5, x6, x7, x8, x9, x10, x11, x12, x13, x14, x15, x16, n, r, acc ++ [rItem r j], j + 1, rfl, by omega, hm, by rw [List.length_append]; simp only [List.length_cons, List.length_nil]; omega, hl, hp⟩, ?_, ?_⟩
      · show ((n : Int) - ((j + 1 : Nat) : Int)).toNat < ((n : Int) - (j : Int)).toNat
        omega
      · show lpG (fun i => [rItem r i]) n (j + 1) (acc ++ [rItem r j]) = lpG (fun i => [rItem r i]) n j acc
        unfold lpG
        rw [coll_next (f := (fun i => [rItem r i])) hlt acc]
    have c0 : decide ((j : Int) < (n : Int)) = true := decide_eq_true (by omega)
    have c1 : decide ((0 : Int) ≤ (j : Int)) = true := decide_eq_true (by omega)
    have c2 : IntKind.i64.wrap ((j : Int) + 1) = ((j + 1 : Nat) : Int) := nat_wrap (by omega)
    have c4 : ∀ z : List D, decide ((((acc ++ [z]).length : Nat) : Int) ≤ 1599289640401) = true := fun z => decide_eq_true (by rw [List.length_append, List.length_cons, List.length_nil]; omega)
    obtain ⟨e0, e1⟩ := hp j (by omega)
    have e0' : (r.getD j []).getD 0 default = .l (cL (el r j) 0) := e0
    have hr : rItem r j = [.i 3, .i (j : Int), .i 0, .i 0, .i 0, .i 0, .l (cL (el r j) 0), .s ⟨#[]⟩] := rfl
    rw [hr] at hn
    generalize cL (el r j) 0 = ps at e0' e1 hn
    have c5 : decide ((j : Int) < (r.length : Int)) = true := decide_eq_true (by omega)
    have hcl : ∀ xs, cloneD [.l xs] = [.l xs] := fun _ => rfl
    simp only [rt12_1, VT.ok, Nd.holds, X.outs, X.ds, X.d, Op1.ev, Op2.ev, takeD_zero, takeD_cons, List.cons_append, List.nil_append, List.getD_cons_zero, List.getD_cons_succ, D.int_i, D.bool_b, D.lst_l, Int.toNat_natCast, if_true, implies_true, true_and, F26, R26, c0, c1, c2, c4, c5, e0', hcl]
    exact ⟨fun _ => ⟨ps, rfl, e1⟩, hn _ rfl⟩
  · have hj' : n = j := by omega
    subst hj'
    have c0 : decide ((n : Int) < (n : Int)) = false := decide_eq_false (by omega)
    simp only [rt12_1, VT.ok, Nd.holds, X.outs, X.ds, X.d, Op1.ev, Op2.ev, List.cons_append, List.nil_append, List.getD_cons_zero, List.getD_cons_succ, D.int_i, D.bool_b, D.lst_l, Int.toNat_natCast, Bool.false_eq_true, if_false, takeD1_0, c0]
    refine round_exit (by omega) ?_
    show lpG (fun i => [rItem r i]) n n acc = _
    unfold lpG
    rw [coll_end]
    try rfl
theorem loopM12_2 : LoopMeets Try.prog F (R L12_2.key) L12_2 lb12_2 := by
  refine loop_meets (pre := R) mixed (sgAt_all (P := Try.prog) (pre := R) (Φ := F) (l := sg12) (List.forall_mem_cons.2 ⟨Meets.at (pre := R) (Φ := F) m24, List.forall_mem_cons.2 ⟨Meets.at (pre := R) (Φ := F) m25, List.forall_mem_cons.2 ⟨Meets.at (pre := R) (Φ := F) m26, List.forall_mem_cons.2 ⟨Meets.at (pre := R) (Φ := F) m27, List.forall_mem_cons.2 ⟨Meets.at (pre := R) (Φ := F) m28, (fun _ h => nomatch h)⟩⟩⟩⟩⟩)) (loops_n 0 lk12_2 fun k hk => by omega) L12_2 (fun ρ => ((ρ.getD 0 default).int - (ρ.getD 1 default).int).toNat) le12_2 fun ρ _ hq => ?_
  obtain ⟨x3, x4, x5, x6, x7, x8, x9, x10, x11, x12, x13, x14, x15, x16, n, b, acc, j, rfl, hj, hm, ha, hl⟩ : prB2 ρ := hq
  by_cases hlt : j < n
  · have hn : ∀ acc' : List (List D), acc ++ [nItem b j] = acc' → RoundOk F (R L12_2.key) (fun ρ => ((ρ.getD 0 default).int - (ρ.getD 1 default).int).toNat) L12_2 [.i (n : Int), .i (j : Int), .l b, x3, x4, x5, x6, x7, x8, x9, x10, x11, x12, x13, x14, x15, x16, .l acc] [.i (-1), .i ((j + 1 : Nat) : Int), .l acc'] := fun acc' h => by
      subst h
      refine round_next ⟨⟨x3, x4, x5, x6, x7, x8, x9, x10, x11, x12, x13, x14, x15, x16, n, b, acc ++ [nItem b j], j + 1, rfl, by omega, hm, by rw [List.length_append]; simp only [List.length_cons, List.length_nil]; omega, hl⟩, ?_, ?_⟩
      · show ((n : Int) - ((j + 1 : Nat) : Int)).toNat < ((n : Int) - (j : Int)).toNat
        omega
      · show lpG (fun i => [nItem b i]) n (j + 1) (acc ++ [nItem b j]) = lpG (fun i => [nItem b i]) n j acc
        unfold lpG
        rw [coll_next (f := (fun i => [nItem b i])) hlt acc]
    have c0 : decide ((j : Int) < (n : Int)) = true := decide_eq_true (by omega)
    have c1 : decide ((0 : Int) ≤ (j : Int)) = true := decide_eq_true (by omega)
    have c2 : IntKind.i64.wrap ((j : Int) + 1) = ((j + 1 : Nat) : Int) := nat_wrap (by omega)
    have c4 : ∀ z : List D, decide ((((acc ++ [z]).length : Nat) : Int) ≤ 1599289640401) = true := fun z => decide_eq_true (by rw [List.length_append, List.length_cons, List.length_nil]; omega)
    have c5 : decide ((j : Int) < (b.length : Int)) = true := decide_eq_true (by omega)
    simp only [rt12_2, VT.ok, Nd.holds, X.ds, X.d, Op1.ev, Op2.ev, List.getD_cons_zero, List.getD_cons_succ, D.int_i, D.bool_b, D.lst_l, Int.toNat_natCast, if_true, implies_true, true_and, c0, c1, c2, c4, c5]
    exact hn _ rfl
  · have hj' : n = j := by omega
    subst hj'
    have c0 : decide ((n : Int) < (n : Int)) = false := decide_eq_false (by omega)
    simp only [rt12_2, VT.ok, Nd.holds, X.ds, X.d, Op1.ev, Op2.ev, List.getD_cons_zero, List.getD_cons_succ, D.int_i, D.bool_b, D.lst_l, Int.toNat_natCast, Bool.false_eq_true, if_false, c0]
    refine round_exit (by omega) ?_
    show lpG (fun i => [nItem b i]) n n acc = _
    unfold lpG
    rw [coll_end]
    try rfl
theorem loopM12_3 : LoopMeets Try.prog F (R L12_3.key) L12_3 lb12_3 := by
  refine loop_meets (pre := R) mixed (sgAt_all (P := Try.prog) (pre := R) (Φ := F) (l := sg12) (List.forall_mem_cons.2 ⟨Meets.at (pre := R) (Φ := F) m24, List.forall_mem_cons.2 ⟨Meets.at (pre := R) (Φ := F) m25, List.forall_mem_cons.2 ⟨Meets.at (pre := R) (Φ := F) m26, List.forall_mem_cons.2 ⟨Meets.at (pre := R) (Φ := F) m27, List.forall_mem_cons.2 ⟨Meets.at (pre := R) (Φ := F) m28, (fun _ h => nomatch h)⟩⟩⟩⟩⟩)) (loops_n 0 lk12_3 fun k hk => by omega) L12_3 (fun ρ => ((ρ.getD 1 default).int - (ρ.getD 2 default).int).toNat) le12_3 fun ρ _ hq => ?_
  obtain ⟨x4, x5, x6, x7, x8, x9, x10, x11, x12, x13, x14, x15, x16, x17, N, b, acc, j, rfl, hj, hm, ha, hl⟩ : prB3 ρ := hq
  by_cases hlt : j < N.length
  · have hn : ∀ acc' : List (List D), acc ++ (lItem N 1 b) j = acc' → RoundOk F (R L12_3.key) (fun ρ => ((ρ.getD 1 default).int - (ρ.getD 2 default).int).toNat) L12_3 [.l N, .i (N.length : Int), .i (j : Int), .l b, x4, x5, x6, x7, x8, x9, x10, x11, x12, x13, x14, x15, x16, x17, .l acc] [.i (-1), .i ((j + 1 : Nat) : Int), .l acc'] := fun acc' h => by
      subst h
      refine round_next ⟨⟨x4, x5, x6, x7, x8, x9, x10, x11, x12, x13, x14, x15, x16, x17, N, b, acc ++ (lItem N 1 b) j, j + 1, rfl, by omega, hm, by rw [List.length_append]; have := lItem_len N 1 b j; omega, hl⟩, ?_, ?_⟩
      · show ((N.length : Int) - ((j + 1 : Nat) : Int)).toNat < ((N.length : Int) - (j : Int)).toNat
        omega
      · show lpG (lItem N 1 b) N.length (j + 1) (acc ++ (lItem N 1 b) j) = lpG (lItem N 1 b) N.length j acc
        unfold lpG
        rw [coll_next (f := (lItem N 1 b)) hlt acc]
    have c0 : decide ((j : Int) < (N.length : Int)) = true := decide_eq_true (by omega)
    have c1 : decide ((0 : Int) ≤ (j : Int)) = true := decide_eq_true (by omega)
    have c2 : IntKind.i64.wrap ((j : Int) + 1) = ((j + 1 : Nat) : Int) := nat_wrap (by omega)
    have c4 : ∀ z : List D, decide ((((acc ++ [z]).length : Nat) : Int) ≤ 1599289640401) = true := fun z => decide_eq_true (by rw [List.length_append, List.length_cons, List.length_nil]; omega)
    have c5 : decide ((j : Int) < (b.length : Int)) = true := decide_eq_true (by omega)
    have hT : lItem N 1 b j = if (!(cS (el N j) 1 == ⟨#[]⟩)) = true then [tItem b j ((el N j).getD 1 default)] else [] := rfl
    cases hb : (!(cS (el N j) 1 == ⟨#[]⟩))
    · have hb' : (!(((N.getD j []).getD 1 default).str == ⟨#[]⟩)) = false := hb
      rw [hb, if_neg (by decide)] at hT
      simp only [rt12_3, VT.ok, Nd.holds, X.ds, X.d, Op1.ev, Op2.ev, List.getD_cons_zero, List.getD_cons_succ, D.int_i, D.bool_b, D.lst_l, D.str_s, Int.toNat_natCast, if_true, Bool.false_eq_true, if_false, implies_true, true_and, c0, c1, c2, c4, c5, hb']
      exact hn acc (by rw [hT, List.append_nil])
    · have hb' : (!(((N.getD j []).getD 1 default).str == ⟨#[]⟩)) = true := hb
      rw [hb, if_pos rfl] at hT
      simp only [rt12_3, VT.ok, Nd.holds, X.ds, X.d, Op1.ev, Op2.ev, List.getD_cons_zero, List.getD_cons_succ, D.int_i, D.bool_b, D.lst_l, D.str_s, Int.toNat_natCast, if_true, implies_true, true_and, c0, c1, c2, c4, c5, hb']
      exact hn _ (by rw [hT]; rfl)
  · have hj' : N.length = j := by omega
    subst hj'
    have c0 : decide ((N.length : Int) < (N.length : Int)) = false := decide_eq_false (by omega)
    simp only [rt12_3, VT.ok, Nd.holds, X.ds, X.d, Op1.ev, Op2.ev, List.getD_cons_zero, List.getD_cons_succ, D.int_i, D.bool_b, D.lst_l, D.str_s, Int.toNat_natCast, Bool.false_eq_true, if_false, c0]
    refine round_exit (by omega) ?_
    show lpG (lItem N 1 b) N.length N.length acc = _
    unfold lpG
    rw [coll_end]
    try rfl
theorem loopM12_4 : LoopMeets Try.prog F (R L12_4.key) L12_4 lb12_4 := by
  refine loop_meets (pre := R) mixed (sgAt_all (P := Try.prog) (pre := R) (Φ := F) (l := sg12) (List.forall_mem_cons.2 ⟨Meets.at (pre := R) (Φ := F) m24, List.forall_mem_cons.2 ⟨Meets.at (pre := R) (Φ := F) m25, List.forall_mem_cons.2 ⟨Meets.at (pre := R) (Φ := F) m26, List.forall_mem_cons.2 ⟨Meets.at (pre := R) (Φ := F) m27, List.forall_mem_cons.2 ⟨Meets.at (pre := R) (Φ := F) m28, (fun _ h => nomatch h)⟩⟩⟩⟩⟩)) (loops_n 0 lk12_4 fun k hk => by omega) L12_4 (fun ρ => ((ρ.getD 1 default).int - (ρ.getD 2 default).int).toNat) le12_4 fun ρ _ hq => ?_
  obtain ⟨x3, x4, x5, x7, x8, x9, x10, x11, x12, x13, x14, x15, x16, x17, N, b, acc, j, rfl, hj, hm, ha, hl⟩ : prB4 ρ := hq
  by_cases hlt : j < N.length
  · have hn : ∀ acc' : List (List D), acc ++ (mItem N b) j = acc' → RoundOk F (R L12_4.key) (fun ρ => ((ρ.getD 1 default).int - (ρ.getD 2 default).int).toNat) L12_4 [.l N, .i (N.length : Int), .i (j : Int), x3, x4, x5, .l b, x7, x8, x9, x10, x11, x12, x13, x14, x15, x16, x17, .l acc] [.i (-1), .i ((j + 1 : Nat) : Int), .l acc'] := fun acc' h => by
      subst h
      refine round_next ⟨⟨x3, x4, x5, x7, x8, x9, x10, x11, x12, x13, x14, x15, x16, x17, N, b, acc ++ (mItem N b) j, j + 1, rfl, by omega, hm, by rw [List.length_append]; have := mItem_len N b j; omega, hl⟩, ?_, ?_⟩
      · show ((N.length : Int) - ((j + 1 : Nat) : Int)).toNat < ((N.length : Int) - (j : Int)).toNat
        omega
      · show lpG (mItem N b) N.length (j + 1) (acc ++ (mItem N b) j) = lpG (mItem N b) N.length j acc
        unfold lpG
        rw [coll_next (f := (mItem N b)) hlt acc]
    have c0 : decide ((j : Int) < (N.length : Int)) = true := decide_eq_true (by omega)
    have c1 : decide ((0 : Int) ≤ (j : Int)) = true := decide_eq_true (by omega)
    have c2 : IntKind.i64.wrap ((j : Int) + 1) = ((j + 1 : Nat) : Int) := nat_wrap (by omega)
    have c4 : ∀ z : List D, decide ((((acc ++ [z]).length : Nat) : Int) ≤ 1599289640401) = true := fun z => decide_eq_true (by rw [List.length_append, List.length_cons, List.length_nil]; omega)
    have c5 : decide ((j : Int) < (b.length : Int)) = true := decide_eq_true (by omega)
    have hT : mItem N b j = if (!(cS (el N j) 4 == ⟨#[]⟩) && !sameQ (rQ (el b j) 0) z4) = true then [tItem b j ((el N j).getD 4 default)] else [] := rfl
    cases hb : (!(cS (el N j) 4 == ⟨#[]⟩) && !sameQ (rQ (el b j) 0) z4)
    · have hb' : (!(((N.getD j []).getD 4 default).str == ⟨#[]⟩) && !((((b.getD j []).getD 0 default).int == 0) && ((((b.getD j []).getD 1 default).int == 0) && ((((b.getD j []).getD 2 default).int == 0) && (((b.getD j []).getD 3 default).int == 0))))) = false := hb
      rw [hb, if_neg (by decide)] at hT
      simp only [rt12_4, VT.ok, Nd.holds, X.ds, X.d, Op1.ev, Op2.ev, List.getD_cons_zero, List.getD_cons_succ, D.int_i, D.bool_b, D.lst_l, D.str_s, ite_b, ite_and, Int.toNat_natCast, if_true, Bool.false_eq_true, if_false, implies_true, true_and, c0, c1, c2, c4, c5, hb']
      exact hn acc (by rw [hT, List.append_nil])
    · have hb' : (!(((N.getD j []).getD 4 default).str == ⟨#[]⟩) && !((((b.getD j []).getD 0 default).int == 0) && ((((b.getD j []).getD 1 default).int == 0) && ((((b.getD j []).getD 2 default).int == 0) && (((b.getD j []).getD 3 default).int == 0))))) = true := hb
      rw [hb, if_pos rfl] at hT
      simp only [rt12_4, VT.ok, Nd.holds, X.ds, X.d, Op1.ev, Op2.ev, List.getD_cons_zero, List.getD_cons_succ, D.int_i, D.bool_b, D.lst_l, D.str_s, ite_b, ite_and, Int.toNat_natCast, if_true, implies_true, true_and, c0, c1, c2, c4, c5, hb']
      exact hn _ (by rw [hT]; rfl)
  · have hj' : N.length = j := by omega
    subst hj'
    have c0 : decide ((N.length : Int) < (N.length : Int)) = false := decide_eq_false (by omega)
    simp only [rt12_4, VT.ok, Nd.holds, X.ds, X.d, Op1.ev, Op2.ev, List.getD_cons_zero, List.getD_cons_succ, D.int_i, D.bool_b, D.lst_l, D.str_s, ite_b, ite_and, Int.toNat_natCast, Bool.false_eq_true, if_false, c0]
    refine round_exit (by omega) ?_
    show lpG (mItem N b) N.length N.length acc = _
    unfold lpG
    rw [coll_end]
    try rfl
end Go.Proofs.Ytoajdhghecjdlaa.rv
namespace Go.RV
open Go.Proofs.Ytoajdhghecjdlaa.rv
theorem ord_len {g : Gd} (hv : validE g = 0) : (ordD g).length = g.C.length := by
  rw [ord_byKey, byKey_all _ _ rfl (dep_ok hv), idI_len]
theorem ord_mem {g : Gd} {x : Int} (h : x ∈ ordD g) : ∃ i : Nat, i < g.C.length ∧ x = (i : Int) := by
  unfold ordD collN at h
  simp only [List.mem_flatMap, List.drop_zero, List.mem_range] at h
  obtain ⟨d, _, i, hi, hx⟩ := h
  split at hx
  · simp only [List.mem_singleton] at hx
    exact ⟨i, hi, hx⟩
  · cases hx
theorem ord_ok {g : Gd} {c : List (List D)} (hc : c.length = g.C.length) : ∀ i, i < ((ordD g).map encI).length → (el ((ordD g).map encI) i).getD 0 default = .i (cI (el ((ordD g).map encI) i) 0) ∧ 0 ≤ cI (el ((ordD g).map encI) i) 0 ∧ cI (el ((ordD g).map encI) i) 0 < c.length := fun i hi => by
  rw [List.length_map] at hi
  have e : el ((ordD g).map encI) i = [.i ((ordD g).getD i 0)] := rowI hi
  obtain ⟨k, hk, hx⟩ := ord_mem (getD_mem (0 : Int) hi)
  rw [e]
  refine ⟨rfl, ?_, ?_⟩
  · show 0 ≤ (ordD g).getD i 0
    omega
  · show (ordD g).getD i 0 < c.length
    omega
theorem grp_coll (c : List (List D)) (o : List Int) : collN (fun i => [gItem c (cI (el (o.map encI) i) 0)]) (o.map encI).length 0 = o.map (gItem c) := by
  rw [coll_map (fun x => gItem c (cI x 0)), List.map_map]
  rfl
theorem fitB_f {g : Gd} {n c r l : List (List D)} (h : fitB g n c r l = false) : validE g = 0 ∧ n.length = g.N.length ∧ c.length = g.C.length ∧ r.length = g.E.length ∧ l.length = g.E.length := by
  simp only [fitB, Bool.or_eq_false_iff, Bool.not_eq_false', beq_iff_eq] at h
  omega
theorem ptsR_of {e : TypeId} {r : List (List D)} (h : ∀ x ∈ r, FitsF [.sl e [.int .i64, .int .i64]] x) (hq : ∀ x ∈ r, (cL x 0).length ≤ 8796093022208) : ptsR r := fun i hi => by
  have hm := getD_mem [] hi
  refine ⟨?_, hq _ hm⟩
  obtain ⟨x, e, hx⟩ := fits1 (h _ hm)
  obtain ⟨ps, rfl, _⟩ := wf_sl hx
  rw [show el r i = [.l ps] from e]
  rfl
theorem fitsDr {e1 e2 e3 e4 e5 e6 : TypeId} {c1 c2 c5 c6 : List CT} {a9 a10 a11 a12 a13 a14 : CT} {ds : List D} (h : FitsF (.sl e1 c1 :: .sl e2 c2 :: .sl e3 [.sl e4 [.int .i64, .int .i64]] :: .sl e5 c5 :: a9 :: a10 :: a11 :: a12 :: a13 :: a14 :: .sl e6 c6 :: []) ds) :
    ∃ (n c r l : List (List D)) (x9 x10 x11 x12 x13 x14 x15 : D), ds = [.l n, .l c, .l r, .l l, x9, x10, x11, x12, x13, x14, x15] ∧ (∀ x ∈ r, FitsF [.sl e4 [.int .i64, .int .i64]] x) ∧ (∀ x ∈ n, FitsF c1 x) ∧ (∀ x ∈ c, FitsF c2 x) ∧ ∀ x ∈ l, FitsF c5 x := by
  match ds, h with
  | [d0, d1, d2, d3, d4, d5, d6, d7, d8, d9, d10], ⟨h0, h1, h2, h3, _⟩ =>
    obtain ⟨n, rfl, _, hn⟩ := wf_sl h0
    obtain ⟨c, rfl, _, hc⟩ := wf_sl h1
    obtain ⟨r, rfl, _, hr⟩ := wf_sl h2
    obtain ⟨l, rfl, _, hl⟩ := wf_sl h3
    exact ⟨n, c, r, l, d4, d5, d6, d7, d8, d9, d10, rfl, hr, hn, hc, hl⟩
end Go.RV
namespace Go.Proofs.Ytoajdhghecjdlaa.rv
set_option maxRecDepth 10000
open Go.RV
theorem m12 : Meets Try.prog 12 S12 (R 12) (F 12) := by
  refine meets_of_vt (pre := R) (Φ := F) mixed (sgAt_all (P := Try.prog) (pre := R) (Φ := F) (l := sg12) (List.forall_mem_cons.2 ⟨Meets.at (pre := R) (Φ := F) m24, List.forall_mem_cons.2 ⟨Meets.at (pre := R) (Φ := F) m25, List.forall_mem_cons.2 ⟨Meets.at (pre := R) (Φ := F) m26, List.forall_mem_cons.2 ⟨Meets.at (pre := R) (Φ := F) m27, List.forall_mem_cons.2 ⟨Meets.at (pre := R) (Φ := F) m28, (fun _ h => nomatch h)⟩⟩⟩⟩⟩)) Try.func12 b12 n12 (loops_n 5 k12 fun k hk => match k, hk with | 0, _ => loop_this lf12_0 loopM12_0 | 1, _ => loop_this lf12_1 loopM12_1 | 2, _ => loop_this lf12_2 loopM12_2 | 3, _ => loop_this lf12_3 loopM12_3 | 4, _ => loop_this lf12_4 loopM12_4) e12 fun ds hf hq => ?_
  obtain ⟨g, ds', rfl, h5, _⟩ := fitsG hf.flat
  obtain ⟨n, c, r, l, x9, x10, x11, x12, x13, x14, x15, rfl, hr, _⟩ := fitsDr h5
  have hq : ∀ x ∈ r, (cL x 0).length ≤ 8796093022208 := hq
  have hval : buildD [.s g.nm, .b g.dr, .l g.N, .l g.E, .l g.C, .l n, .l c, .l r, .l l, x9, x10, x11, x12, x13, x14, x15] = outS (buildS g n c r l) := rfl
  have hv0 : validD [.s g.nm, .b g.dr, .l g.N, .l g.E, .l g.C] = [.i (validE g)] := rfl
  have hfit : ((((!(validE g == 0) || !((n.length : Int) == (g.N.length : Int))) || !((c.length : Int) == (g.C.length : Int))) || !((r.length : Int) == (g.E.length : Int))) || !((l.length : Int) == (g.E.length : Int))) = fitB g n c r l := rfl
  rw [show F 12 = buildD from rfl]
  show VT.ok F [.s g.nm, .b g.dr, .l g.N, .l g.E, .l g.C, .l n, .l c, .l r, .l l, x9, x10, x11, x12, x13, x14, x15] R (fun out => out = buildD [.s g.nm, .b g.dr, .l g.N, .l g.E, .l g.C, .l n, .l c, .l r, .l l, x9, x10, x11, x12, x13, x14, x15]) vt12
  rw [hval]
  cases h1 : fitB g n c r l
  · obtain ⟨k0, k1, k2, k3, k4⟩ := fitB_f h1
    obtain ⟨⟨m1, m2, m3⟩, _⟩ := valid_parts k0
    have hord := ord_len k0
    have hps := ptsR_of hr hq
    have hbd : ∀ I : List (List D), bdsD [.l I] = [.i (bndS I).1, .i (bndS I).2.1, .i (bndS I).2.2.1, .i (bndS I).2.2.2] := fun _ => rfl
    have hva : ∀ I : List (List D), valD [.i (bndS I).1, .i (bndS I).2.1, .i (bndS I).2.2.1, .i (bndS I).2.2.2, .l I] = [.i (validS I (bndS I))] := fun _ => rfl
    have s1 : ((ordD g).map (gItem c)).length ≤ 16 := by rw [List.length_map, hord]; exact m3
    have s2 := coll_len (f := fun i => [rItem r i]) (n := g.E.length) (i := 0) (m := 1) (fun _ => Nat.le_refl _)
    have s3 := coll_len (f := fun i => [nItem n i]) (n := g.N.length) (i := 0) (m := 1) (fun _ => Nat.le_refl _)
    have s4 := coll_len (f := lItem g.N 1 n) (n := g.N.length) (i := 0) (m := 1) (lItem_len g.N 1 n)
    have s5 := coll_len (f := mItem g.E l) (n := g.E.length) (i := 0) (m := 1) (mItem_len g.E l)
    have hI : ((((((ordD g).map (gItem c)) ++ collN (fun i => [rItem r i]) g.E.length 0) ++ collN (fun i => [nItem n i]) g.N.length 0) ++ collN (lItem g.N 1 n) g.N.length 0) ++ collN (mItem g.E l) g.E.length 0) = itemsD g n c r l := rfl
    have t2 : (((ordD g).map (gItem c)) ++ collN (fun i => [rItem r i]) g.E.length 0).length ≤ 1000 := by simp only [List.length_append]; omega
    have t3 : ((((ordD g).map (gItem c)) ++ collN (fun i => [rItem r i]) g.E.length 0) ++ collN (fun i => [nItem n i]) g.N.length 0).length ≤ 1000 := by simp only [List.length_append]; omega
    have t4 : (((((ordD g).map (gItem c)) ++ collN (fun i => [rItem r i]) g.E.length 0) ++ collN (fun i => [nItem n i]) g.N.length 0) ++ collN (lItem g.N 1 n) g.N.length 0).length ≤ 1000 := by simp only [List.length_append]; omega
    have t5 : ((((((ordD g).map (gItem c)) ++ collN (fun i => [rItem r i]) g.E.length 0) ++ collN (fun i => [nItem n i]) g.N.length 0) ++ collN (lItem g.N 1 n) g.N.length 0) ++ collN (mItem g.E l) g.E.length 0).length ≤ 1000 := by simp only [List.length_append]; omega
    have hgr : grpsD [.s g.nm, .b g.dr, .l g.N, .l g.E, .l g.C] = [.l ((ordD g).map encI)] := rfl
    have l0 : lpB0 [.l ((ordD g).map encI), .i (((ordD g).map encI).length : Int), .i 0, .l n, .l c, .l r, .l l, x9, x10, x11, x12, x13, x14, x15, .i 0, .i 0, .i 0, .i 0, .l []] = [.i 0, .i (((ordD g).map encI).length : Int), .l ((ordD g).map (gItem c))] := by
      rw [← grp_coll c (ordD g)]; rfl
    have p0 : prB0 [.l ((ordD g).map encI), .i (((ordD g).map encI).length : Int), .i 0, .l n, .l c, .l r, .l l, x9, x10, x11, x12, x13, x14, x15, .i 0, .i 0, .i 0, .i 0, .l []] := ⟨_, _, _, _, _, _, _, _, _, _, _, _, _, _, (ordD g).map encI, c, [], 0, rfl, Nat.zero_le _, by rw [List.length_map, hord]; omega, by show (0 : Nat) ≤ _; omega, ord_ok (by omega)⟩
    rw [List.length_map] at l0 p0
    have l1 : lpB1 [.i (g.E.length : Int), .i 0, .l n, .l c, .l r, .l l, x9, x10, x11, x12, x13, x14, x15, .i 0, .i 0, .i 0, .i 0, .l ((ordD g).map (gItem c))] = [.i 0, .i (g.E.length : Int), .l (((ordD g).map (gItem c)) ++ collN (fun i => [rItem r i]) g.E.length 0)] := rfl
    have p1 : prB1 [.i (g.E.length : Int), .i 0, .l n, .l c, .l r, .l l, x9, x10, x11, x12, x13, x14, x15, .i 0, .i 0, .i 0, .i 0, .l ((ordD g).map (gItem c))] := ⟨_, _, _, _, _, _, _, _, _, _, _, _, _, _, g.E.length, r, _, 0, rfl, Nat.zero_le _, m2, by omega, by omega, hps⟩
    have l2 : lpB2 [.i (g.N.length : Int), .i 0, .l n, .l c, .l r, .l l, x9, x10, x11, x12, x13, x14, x15, .i 0, .i 0, .i 0, .i 0, .l (((ordD g).map (gItem c)) ++ collN (fun i => [rItem r i]) g.E.length 0)] = [.i 0, .i (g.N.length : Int), .l ((((ordD g).map (gItem c)) ++ collN (fun i => [rItem r i]) g.E.length 0) ++ collN (fun i => [nItem n i]) g.N.length 0)] := rfl
    have p2 : prB2 [.i (g.N.length : Int), .i 0, .l n, .l c, .l r, .l l, x9, x10, x11, x12, x13, x14, x15, .i 0, .i 0, .i 0, .i 0, .l (((ordD g).map (gItem c)) ++ collN (fun i => [rItem r i]) g.E.length 0)] := ⟨_, _, _, _, _, _, _, _, _, _, _, _, _, _, g.N.length, n, _, 0, rfl, Nat.zero_le _, by omega, by omega, by omega⟩
    have l3 : lpB3 [.l g.N, .i (g.N.length : Int), .i 0, .l n, .l c, .l r, .l l, x9, x10, x11, x12, x13, x14, x15, .i 0, .i 0, .i 0, .i 0, .l ((((ordD g).map (gItem c)) ++ collN (fun i => [rItem r i]) g.E.length 0) ++ collN (fun i => [nItem n i]) g.N.length 0)] = [.i 0, .i (g.N.length : Int), .l (((((ordD g).map (gItem c)) ++ collN (fun i => [rItem r i]) g.E.length 0) ++ collN (fun i => [nItem n i]) g.N.length 0) ++ collN (lItem g.N 1 n) g.N.length 0)] := rfl
    have p3 : prB3 [.l g.N, .i (g.N.length : Int), .i 0, .l n, .l c, .l r, .l l, x9, x10, x11, x12, x13, x14, x15, .i 0, .i 0, .i 0, .i 0, .l ((((ordD g).map (gItem c)) ++ collN (fun i => [rItem r i]) g.E.length 0) ++ collN (fun i => [nItem n i]) g.N.length 0)] := ⟨_, _, _, _, _, _, _, _, _, _, _, _, _, _, g.N, n, _, 0, rfl, Nat.zero_le _, by omega, by omega, by omega⟩
    have l4 : lpB4 [.l g.E, .i (g.E.length : Int), .i 0, .l n, .l c, .l r, .l l, x9, x10, x11, x12, x13, x14, x15, .i 0, .i 0, .i 0, .i 0, .l (((((ordD g).map (gItem c)) ++ collN (fun i => [rItem r i]) g.E.length 0) ++ collN (fun i => [nItem n i]) g.N.length 0) ++ collN (lItem g.N 1 n) g.N.length 0)] = [.i 0, .i (g.E.length : Int), .l ((((((ordD g).map (gItem c)) ++ collN (fun i => [rItem r i]) g.E.length 0) ++ collN (fun i => [nItem n i]) g.N.length 0) ++ collN (lItem g.N 1 n) g.N.length 0) ++ collN (mItem g.E l) g.E.length 0)] := rfl
    have p4 : prB4 [.l g.E, .i (g.E.length : Int), .i 0, .l n, .l c, .l r, .l l, x9, x10, x11, x12, x13, x14, x15, .i 0, .i 0, .i 0, .i 0, .l (((((ordD g).map (gItem c)) ++ collN (fun i => [rItem r i]) g.E.length 0) ++ collN (fun i => [nItem n i]) g.N.length 0) ++ collN (lItem g.N 1 n) g.N.length 0)] := ⟨_, _, _, _, _, _, _, _, _, _, _, _, _, _, g.E, l, _, 0, rfl, Nat.zero_le _, m2, by omega, by omega⟩
    have hbp : bdPre [.l ((((((ordD g).map (gItem c)) ++ collN (fun i => [rItem r i]) g.E.length 0) ++ collN (fun i => [nItem n i]) g.N.length 0) ++ collN (lItem g.N 1 n) g.N.length 0) ++ collN (mItem g.E l) g.E.length 0)] := by show ((((((ordD g).map (gItem c)) ++ collN (fun i => [rItem r i]) g.E.length 0) ++ collN (fun i => [nItem n i]) g.N.length 0) ++ collN (lItem g.N 1 n) g.N.length 0) ++ collN (mItem g.E l) g.E.length 0).length ≤ 1000000; omega
    have hB : buildS g n c r l = if validS ((((((ordD g).map (gItem c)) ++ collN (fun i => [rItem r i]) g.E.length 0) ++ collN (fun i => [nItem n i]) g.N.length 0) ++ collN (lItem g.N 1 n) g.N.length 0) ++ collN (mItem g.E l) g.E.length 0) (bndS ((((((ordD g).map (gItem c)) ++ collN (fun i => [rItem r i]) g.E.length 0) ++ collN (fun i => [nItem n i]) g.N.length 0) ++ collN (lItem g.N 1 n) g.N.length 0) ++ collN (mItem g.E l) g.E.length 0)) = 0 then (bndS ((((((ordD g).map (gItem c)) ++ collN (fun i => [rItem r i]) g.E.length 0) ++ collN (fun i => [nItem n i]) g.N.length 0) ++ collN (lItem g.N 1 n) g.N.length 0) ++ collN (mItem g.E l) g.E.length 0), ((((((ordD g).map (gItem c)) ++ collN (fun i => [rItem r i]) g.E.length 0) ++ collN (fun i => [nItem n i]) g.N.length 0) ++ collN (lItem g.N 1 n) g.N.length 0) ++ collN (mItem g.E l) g.E.length 0), 0) else (z4, [], validS ((((((ordD g).map (gItem c)) ++ collN (fun i => [rItem r i]) g.E.length 0) ++ collN (fun i => [nItem n i]) g.N.length 0) ++ collN (lItem g.N 1 n) g.N.length 0) ++ collN (mItem g.E l) g.E.length 0) (bndS ((((((ordD g).map (gItem c)) ++ collN (fun i => [rItem r i]) g.E.length 0) ++ collN (fun i => [nItem n i]) g.N.length 0) ++ collN (lItem g.N 1 n) g.N.length 0) ++ collN (mItem g.E l) g.E.length 0))) := by
      rw [hI]; unfold buildS; rw [h1, if_neg (by decide)]
    simp only [vt12, VT.ok, Nd.holds, X.outs, X.ds, X.d, Op1.ev, Op2.ev, takeD_zero, takeD_cons, List.cons_append, List.nil_append, List.getD_cons_zero, List.getD_cons_succ, D.int_i, D.bool_b, D.lst_l, ite_b, ite_or, List.length_map, Bool.false_eq_true, if_false, implies_true, true_and, F24, R24, F27, R27, F28, R28, F25, R25, F11200, R11200, F11201, R11201, F11202, R11202, F11203, R11203, F11204, R11204, hv0, hfit, h1, hgr, l0, l1, l2, l3, l4, hbd, hva]
    refine ⟨fun _ => k0, fun _ => p0, fun _ => p1, fun _ => p2, fun _ => p3, fun _ => p4, fun _ => hbp, ?_⟩
    rw [hB]
    by_cases hz : validS ((((((ordD g).map (gItem c)) ++ collN (fun i => [rItem r i]) g.E.length 0) ++ collN (fun i => [nItem n i]) g.N.length 0) ++ collN (lItem g.N 1 n) g.N.length 0) ++ collN (mItem g.E l) g.E.length 0) (bndS ((((((ordD g).map (gItem c)) ++ collN (fun i => [rItem r i]) g.E.length 0) ++ collN (fun i => [nItem n i]) g.N.length 0) ++ collN (lItem g.N 1 n) g.N.length 0) ++ collN (mItem g.E l) g.E.length 0)) = 0
    · rw [beq_t hz, if_pos hz]; rfl
    · rw [beq_f hz, if_neg hz]; rfl
  · have hB : buildS g n c r l = (z4, [], 1) := by unfold buildS; rw [h1, if_pos rfl]
    simp only [vt12, VT.ok, Nd.holds, X.outs, X.ds, X.d, Op1.ev, Op2.ev, takeD_zero, takeD_cons, List.cons_append, List.nil_append, List.getD_cons_zero, List.getD_cons_succ, D.int_i, D.bool_b, D.lst_l, ite_b, ite_or, if_true, implies_true, true_and, takeD1_0, F24, R24, F27, R27, F28, R28, F25, R25, F11200, R11200, F11201, R11201, F11202, R11202, F11203, R11203, F11204, R11204, hv0, hfit, h1, hB]
    rfl
end Go.Proofs.Ytoajdhghecjdlaa.rv
namespace Go.Proofs.Ytoajdhghecjdlaa.rv
set_option maxRecDepth 10000
open Go.RV
theorem takeQ (l : List Bx) (j : Nat) : (l.map encQ).take j = (l.take j).map encQ := (List.map_take ..).symm
theorem loopM7_1 : LoopMeets Try.prog F (R L7_1.key) L7_1 lb7_1 := by
  refine loop_meets (pre := R) mixed (sgAt_all (P := Try.prog) (pre := R) (Φ := F) (l := sg7) (List.forall_mem_cons.2 ⟨Meets.at (pre := R) (Φ := F) m16, List.forall_mem_cons.2 ⟨Meets.at (pre := R) (Φ := F) m10, (fun _ h => nomatch h)⟩⟩)) (loops_n 0 lk7_1 fun k hk => by omega) L7_1 (fun ρ => ((ρ.getD 2 default).int - (ρ.getD 3 default).int).toNat) le7_1 fun ρ _ hq => ?_
  obtain ⟨v, l, q, j, rfl, hj, hm⟩ : prDk ρ := hq
  rw [maxLen_val] at hm
  by_cases hlt : j < l.length
  · simp (disch := omega) only [rt7_1, VT.ok, Nd.holds, X.outs, X.ds, X.d, Op1.ev, Op2.ev, takeD_zero, takeD_cons, List.cons_append, List.nil_append, List.getD_cons_zero, List.getD_cons_succ, D.int_i, D.bool_b, D.lst_l, Int.toNat_natCast, List.length_map, implies_true, true_and, F10, R10, ↓reduceIte, dle_t, dlt_t, w64', rowQz, encQ, fn10_eq]
    show if nearAt l q j = true then _ else _
    cases hb : nearAt l q j
    · simp only [Bool.false_eq_true, if_false]
      refine round_next ⟨⟨v, l, q, j + 1, rfl, by omega, hm⟩, ?_, ?_⟩
      · show ((l.length : Int) - ((j + 1 : Nat) : Int)).toNat < ((l.length : Int) - (j : Int)).toNat
        omega
      · show lpDk [v, .l (l.map encQ), .i (l.length : Int), .i ((j + 1 : Nat) : Int), .i q.1, .i q.2.1, .i q.2.2.1, .i q.2.2.2] = lpDk [v, .l (l.map encQ), .i (l.length : Int), .i (j : Int), .i q.1, .i q.2.1, .i q.2.2.1, .i q.2.2.2]
        simp only [lpDk, map_decQ, List.length_map, Int.toNat_natCast]
        exact scan_next hlt hb
    · simp only [if_true]
      refine round_exit (by omega) ?_
      show lpDk [v, .l (l.map encQ), .i (l.length : Int), .i (j : Int), .i q.1, .i q.2.1, .i q.2.2.1, .i q.2.2.2] = _
      simp only [lpDk, map_decQ, List.length_map, Int.toNat_natCast]
      exact scan_hit hlt hb
  · have hj' : j = l.length := by omega
    subst hj'
    simp (disch := omega) only [rt7_1, VT.ok, X.ds, X.d, Op2.ev, List.getD_cons_zero, List.getD_cons_succ, D.int_i, D.bool_b, Bool.false_eq_true, ↓reduceIte, dlt_f]
    refine round_exit (by omega) ?_
    show lpDk [v, .l (l.map encQ), .i (l.length : Int), .i (l.length : Int), .i q.1, .i q.2.1, .i q.2.2.1, .i q.2.2.2] = _
    simp only [lpDk, map_decQ, List.length_map, Int.toNat_natCast]
    exact scan_end
theorem lpDk_eq (v : D) (l : List Bx) (q : Bx) : lpDk [v, .l (l.map encQ), .i (l.length : Int), .i 0, .i q.1, .i q.2.1, .i q.2.2.1, .i q.2.2.2] = scanN (nearAt l q) (fun j => [.i 0, .b false, .i (j : Int)]) (fun j => [.i 1, v, .i (j : Int)]) l.length 0 := by
  simp only [lpDk, map_decQ, List.length_map, Int.toNat_zero, Nat.sub_zero]
theorem lpDj_eq (l : List Bx) (g : Int) (v : D) (j : Nat) : lpDj [.l (l.map encQ), .i g, v, .l (l.map encQ), .i (l.length : Int), .i (j : Int)] = scanN (nearAny l g) (fun j => [.i 0, .b false, .i (j : Int)]) (fun j => [.i 1, v, .i (j : Int)]) (l.length - j) j := by
  simp only [lpDj, map_decQ, List.length_map, Int.toNat_natCast]
theorem near_take {l : List Bx} {i : Nat} (h : i ≤ l.length) (q : Bx) : anyN (nearAt (l.take i) q) (l.take i).length = anyN (nearAt l q) i := by
  rw [List.length_take, Nat.min_eq_left h]
  refine anyN_congr fun k hk => ?_
  unfold nearAt
  congr 1
  simp only [List.getD]
  rw [List.getElem?_take, if_pos hk]
theorem inflE (q : Bx) (k : Int) : fn16 [.i q.1, .i q.2.1, .i q.2.2.1, .i q.2.2.2, .i k] = [.i (inflQ q k).1, .i (inflQ q k).2.1, .i (inflQ q k).2.2.1, .i (inflQ q k).2.2.2] := fn16_eq q k
theorem loopM7_0 : LoopMeets Try.prog F (R L7_0.key) L7_0 lb7_0 := by
  refine loop_meets (pre := R) mixed (sgAt_all (P := Try.prog) (pre := R) (Φ := F) (l := sg7) (List.forall_mem_cons.2 ⟨Meets.at (pre := R) (Φ := F) m16, List.forall_mem_cons.2 ⟨Meets.at (pre := R) (Φ := F) m10, (fun _ h => nomatch h)⟩⟩)) (loops_n 1 lk7_0 fun k hk => match k, hk with | 0, _ => by rw [li7_0_0]; exact loop_this lf7_1 loopM7_1) L7_0 (fun ρ => ((ρ.getD 4 default).int - (ρ.getD 5 default).int).toNat) le7_0 fun ρ _ hq => ?_
  obtain ⟨l, g, v, j, rfl, hj, hm⟩ : prDj ρ := hq
  have hm' := hm
  rw [maxLen_val] at hm
  by_cases hlt : j < l.length
  · have hlen : (l.take j).length = j := by rw [List.length_take]; omega
    have hp : ∀ q : Bx, prDk [v, .l ((l.take j).map encQ), .i ((l.take j).length : Int), .i 0, .i q.1, .i q.2.1, .i q.2.2.1, .i q.2.2.2] := fun q => ⟨v, l.take j, q, 0, rfl, by omega, by rw [maxLen_val]; omega⟩
    simp (disch := omega) only [rt7_0, VT.ok, Nd.holds, X.outs, X.ds, X.d, Op1.ev, Op2.ev, takeD_zero, takeD_cons, List.cons_append, List.nil_append, List.getD_cons_zero, List.getD_cons_succ, D.int_i, D.bool_b, D.lst_l, Int.toNat_natCast, List.length_map, implies_true, true_and, F16, R16, F10700, R10700, ↓reduceIte, dle_t, dlt_t, w64', rowQz, encQ, inflE, Int.toNat_zero, List.drop_zero, takeQ, lpDk_eq]
    refine ⟨fun _ => hp _, ?_⟩
    rcases scan_any (p := nearAt (l.take j) (inflQ (l.getD j z4) g)) (hit := fun j => [D.i 0, .b false, .i (j : Int)]) (miss := fun j => [D.i 1, v, .i (j : Int)]) (l.take j).length with ⟨h1, k, _, _, _, h2⟩ | ⟨h1, h2⟩
    · rw [near_take (by omega)] at h1
      rw [h2]
      simp only [takeD_zero, takeD_cons, List.getD_cons_zero, List.getD_cons_succ, D.int_i, if_true, show ((0 : Int) == 0) = true from rfl]
      refine round_exit (by omega) ?_
      rw [show F L7_0.key = lpDj from rfl, lpDj_eq]
      exact scan_hit hlt h1
    · rw [near_take (by omega)] at h1
      rw [h2]
      simp only [takeD_zero, takeD_cons, List.getD_cons_zero, List.getD_cons_succ, D.int_i, Bool.false_eq_true, if_false, show ((1 : Int) == 0) = false from rfl]
      refine round_next ⟨⟨l, g, v, j + 1, rfl, by omega, hm'⟩, ?_, ?_⟩
      · show ((l.length : Int) - ((j + 1 : Nat) : Int)).toNat < ((l.length : Int) - (j : Int)).toNat
        omega
      · show lpDj [.l (l.map encQ), .i g, v, .l (l.map encQ), .i (l.length : Int), .i ((j + 1 : Nat) : Int)] = lpDj [.l (l.map encQ), .i g, v, .l (l.map encQ), .i (l.length : Int), .i (j : Int)]
        rw [lpDj_eq, lpDj_eq]
        exact scan_next hlt h1
  · have hj : j = l.length := by omega
    subst hj
    simp (disch := omega) only [rt7_0, VT.ok, X.ds, X.d, Op2.ev, List.getD_cons_zero, List.getD_cons_succ, D.int_i, D.bool_b, Bool.false_eq_true, ↓reduceIte, dlt_f]
    refine round_exit (by omega) ?_
    rw [show F L7_0.key = lpDj from rfl, lpDj_eq]
    exact scan_end
theorem disjD_eq (l : List Bx) (g : Int) : disjD [.l (l.map encQ), .i g] = [.b (disj2 l g)] := by simp only [disjD, map_decQ]
theorem m7 : Meets Try.prog 7 S7 (R 7) (F 7) := by
  refine meets_of_vt (pre := R) (Φ := F) mixed (sgAt_all (P := Try.prog) (pre := R) (Φ := F) (l := sg7) (List.forall_mem_cons.2 ⟨Meets.at (pre := R) (Φ := F) m16, List.forall_mem_cons.2 ⟨Meets.at (pre := R) (Φ := F) m10, (fun _ h => nomatch h)⟩⟩)) Try.func7 b7 n7 (loops_n 2 k7 fun k hk => match k, hk with | 0, _ => loop_this lf7_0 loopM7_0 | 1, _ => loop_this lf7_1 loopM7_1) e7 fun ds hf _ => ?_
  obtain ⟨x, y, rfl, hx, hy⟩ := fits2 hf.flat
  obtain ⟨l, rfl, hm, _⟩ := slQ hx
  obtain ⟨g, rfl, _⟩ := wf_i64 hy
  have e0 := lpDj_eq l g (.b false) 0
  simp only [Int.natCast_zero, Nat.sub_zero] at e0
  simp only [vt7, VT.ok, Nd.holds, X.outs, X.ds, X.d, Op1.ev, Op2.ev, List.cons_append, List.nil_append, List.getD_cons_zero, List.getD_cons_succ, D.int_i, D.bool_b, D.lst_l, List.length_map, F10701, R10701, F7, e0, disjD_eq]
  refine ⟨fun _ => ⟨l, g, _, 0, rfl, by omega, hm⟩, ?_⟩
  rcases scan_any (p := nearAny l g) (hit := fun j => [D.i 0, .b false, .i (j : Int)]) (miss := fun j => [D.i 1, .b false, .i (j : Int)]) l.length with ⟨k1, j, _, _, _, k2⟩ | ⟨k1, k2⟩
  · rw [k2, disj2, k1]; rfl
  · rw [k2, disj2, k1]; rfl
theorem fn33_eq {b : Bx} (hv : bxQ b = true) : fn33 [.i b.1, .i b.2.1, .i b.2.2.1, .i b.2.2.2] = [.i ((b.1 + b.2.2.1) / 2), .i ((b.2.1 + b.2.2.2) / 2)] := by
  have hb := bxB_iff.1 hv
  have hv' : bxB b.1 b.2.1 b.2.2.1 b.2.2.2 = true := hv
  simp (disch := omega) only [fn33, vt33, VT.val, X.outs, X.ds, X.d, Op1.ev, Op2.ev, takeD_zero, takeD_cons, List.cons_append, List.nil_append, List.getD_cons_zero, List.getD_cons_succ, D.int_i, D.bool_b, Bool.false_eq_true, show T33 17 = fn17 from rfl, fn17_eq, hv', Bool.not_true, shr1, ↓reduceIte, w64']
theorem fn20_eq {b : Bx} {w h g k : Int} (hv : bxQ b = true) (hs : sz3 w h g = true) (hk : 0 ≤ k ∧ k ≤ 7) : fn20 [.i b.1, .i b.2.1, .i b.2.2.1, .i b.2.2.2, .i w, .i h, .i g, .i k] = [.i (plc b w h g k).1, .i (plc b w h g k).2.1, .i (plc b w h g k).2.2.1, .i (plc b w h g k).2.2.2] := by
  have hb := bxB_iff.1 hv
  have hz := sz3_iff.1 hs
  have hc : k = 0 ∨ k = 1 ∨ k = 2 ∨ k = 3 ∨ k = 4 ∨ k = 5 ∨ k = 6 ∨ k = 7 := by omega
  rcases hc with rfl | rfl | rfl | rfl | rfl | rfl | rfl | rfl <;>
  simp (disch := omega) only [fn20, vt20, VT.val, X.outs, X.ds, X.d, Op2.ev, takeD_zero, takeD_cons, List.cons_append, List.nil_append, List.getD_cons_zero, List.getD_cons_succ, D.int_i, D.bool_b, Bool.false_eq_true, show T20 33 = fn33 from rfl, fn33_eq hv, tdivp, ↓reduceIte, ↓reduceIte, beq_t, beq_f, w64'] <;> rfl
theorem m18 : Meets Try.prog 18 S18 (R 18) (F 18) := by
  refine meets_of_vt (pre := R) (Φ := F) mixed (sgAt_all (P := Try.prog) (pre := R) (Φ := F) (l := sg18) (List.forall_mem_cons.2 ⟨Meets.at (pre := R) (Φ := F) m31, (fun _ h => nomatch h)⟩)) Try.func18 b18 n18 (loops_n 0 k18 fun k hk => by omega) e18 fun ds hf _ => ?_
  obtain ⟨x, rfl, hx⟩ := fits1 hf.flat
  obtain ⟨xs, rfl, hm, _⟩ := wf_sl hx
  simp only [vt18, VT.ok, Nd.holds, X.outs, X.ds, X.d, Op1.ev, List.cons_append, List.nil_append, List.getD_cons_zero, List.getD_cons_succ, D.bool_b, takeD1_0, F31, R31, F18]
  exact ⟨fun _ i _ => ⟨_, rfl⟩, rfl⟩
theorem put_val (acc : List Bx) (q : Bx) : (if bxB q.1 q.2.1 q.2.2.1 q.2.2.2 = true then [D.i 0, D.l (acc.map encQ ++ [[D.i q.1, D.i q.2.1, D.i q.2.2.1, D.i q.2.2.2]])] else [D.i 0, D.l (acc.map encQ)]) = [D.i 0, D.l ((acc ++ putf q).map encQ)] := by
  have e : bxB q.1 q.2.1 q.2.2.1 q.2.2.2 = bxQ q := rfl
  rw [e, putf]
  split
  · rw [List.map_append]; rfl
  · rw [List.append_nil]
theorem putQD_eq (acc : List Bx) (q : Bx) : putQD [.l (acc.map encQ), .i q.1, .i q.2.1, .i q.2.2.1, .i q.2.2.2] = [.i 0, .l ((acc ++ putf q).map encQ)] := by
  simp only [putQD, map_decQ]
theorem mp8_0 : ProcMeets Try.prog 19 Sp8_19 P8_0 1 (R P8_0.key) (F P8_0.key) := by
  refine proc_meets mixed (sgAt_all (P := Try.prog) (pre := R) (Φ := F) (l := sgp8_0) (List.forall_mem_cons.2 ⟨Meets.at (pre := R) (Φ := F) m17, (fun _ h => nomatch h)⟩)) Try.func19 bp8_0 np8_0 (loops_n 0 kp8_0 fun k hk => by omega) pe8_0 pp8_0 pl8_0 (by decide) fun ρ _ hp => ?_
  obtain ⟨acc, q, rfl, hm⟩ : putQP ρ := hp
  have e : F P8_0.key [.l (acc.map encQ), .i q.1, .i q.2.1, .i q.2.2.1, .i q.2.2.2] = [.i 0, .l ((acc ++ putf q).map encQ)] := by
    rw [show F P8_0.key = putQD from rfl]
    exact putQD_eq acc q
  rw [e, ← put_val]
  have hl : decide (((acc.length + 1 : Nat) : Int) ≤ 4398046511104) = true := decide_eq_true (by omega)
  simp only [pv8_0, VT.ok, Nd.holds, X.outs, X.ds, X.d, Op1.ev, Op2.ev, takeD_zero, takeD_cons, List.cons_append, List.nil_append, List.getD_cons_zero, List.getD_cons_succ, D.int_i, D.bool_b, D.lst_l, List.length_map, implies_true, true_and, F17, R17, fn17_eq, List.length_append, List.length_cons, List.length_nil, Nat.zero_add, hl]
  split <;> rfl
theorem put_len {acc : List Bx} {q : Bx} : (acc ++ putf q).length ≤ acc.length + 1 := by
  rw [List.length_append]; have := putf_len q; omega
theorem lpAn_eq (w h g : Int) (k : Nat) (b : Bx) (acc : List Bx) : lpAn [.i w, .i h, .i g, .i (k : Int), .i b.1, .i b.2.1, .i b.2.2.1, .i b.2.2.2, .l (acc.map encQ)] = [.i 0, .i 8, .l ((acc ++ collN (fun k => putf (plc b w h g k)) 8 k).map encQ)] := by
  simp only [lpAn, map_decQ, Int.toNat_natCast]
theorem loopM8_0 : LoopMeets Try.prog F (R L8_0.key) L8_0 lb8_0 := by
  refine loop_meets (pre := R) mixed (sgAt_all (P := Try.prog) (pre := R) (Φ := F) (l := sg8) (List.forall_mem_cons.2 ⟨Meets.at (pre := R) (Φ := F) m17, List.forall_mem_cons.2 ⟨Meets.at (pre := R) (Φ := F) m18, List.forall_mem_cons.2 ⟨Meets.at (pre := R) (Φ := F) m20, List.forall_mem_cons.2 ⟨ProcMeets.at1 mp8_0, List.forall_mem_cons.2 ⟨MeetsAt.name, (fun _ h => nomatch h)⟩⟩⟩⟩⟩)) (loops_n 0 lk8_0 fun k hk => by omega) L8_0 (fun ρ => (8 - (ρ.getD 3 default).int).toNat) le8_0 fun ρ _ hp => ?_
  obtain ⟨w, h, g, k, b, acc, rfl, hv, hs, hk, ha⟩ : prAn ρ := hp
  by_cases hlt : k < 8
  · have hpre : putQP [.l (acc.map encQ), .i (plc b w h g k).1, .i (plc b w h g k).2.1, .i (plc b w h g k).2.2.1, .i (plc b w h g k).2.2.2] := ⟨acc, plc b w h g k, rfl, by omega⟩
    simp (disch := omega) only [rt8_0, VT.ok, Nd.holds, X.outs, X.ds, X.d, Op2.ev, takeD_zero, takeD_cons, List.cons_append, List.nil_append, List.getD_cons_zero, List.getD_cons_succ, D.int_i, D.bool_b, implies_true, true_and, F20, R20, F15019000, R15019000, ↓reduceIte, dlt_t, w64', fn20_eq hv hs (k := (k : Int)) (by omega), putQD_eq]
    refine ⟨fun _ => hpre, ?_⟩
    refine round_next ⟨⟨w, h, g, k + 1, b, acc ++ putf (plc b w h g k), rfl, hv, hs, by omega, Nat.le_trans put_len (by omega)⟩, ?_, ?_⟩
    · show (8 - ((k + 1 : Nat) : Int)).toNat < (8 - (k : Int)).toNat
      omega
    · show lpAn [.i w, .i h, .i g, .i ((k + 1 : Nat) : Int), .i b.1, .i b.2.1, .i b.2.2.1, .i b.2.2.2, .l ((acc ++ putf (plc b w h g k)).map encQ)] = lpAn [.i w, .i h, .i g, .i (k : Int), .i b.1, .i b.2.1, .i b.2.2.1, .i b.2.2.2, .l (acc.map encQ)]
      rw [lpAn_eq, lpAn_eq, coll_next (f := fun k => putf (plc b w h g k)) hlt acc]
  · have hk : k = 8 := by omega
    subst hk
    simp (disch := omega) only [rt8_0, VT.ok, X.ds, X.d, Op2.ev, List.getD_cons_zero, List.getD_cons_succ, D.int_i, D.bool_b, Bool.false_eq_true, ↓reduceIte, dlt_f]
    refine round_exit (by omega) ?_
    rw [show F L8_0.key = lpAn from rfl]
    have := lpAn_eq w h g 8 b acc
    rw [coll_end] at this
    exact this
theorem sz22 (w h g : Int) : szD [.l [[.i w], [.i h], [.i g]]] = [.b (sz3 w h g)] := by
  rw [sz3_bad]; rfl
theorem arndD_eq (b : Bx) (w h g : Int) : arndD [.i b.1, .i b.2.1, .i b.2.2.1, .i b.2.2.2, .i w, .i h, .i g] = [.l ((arnd b w h g).map encQ)] := rfl
theorem m8 : Meets Try.prog 8 S8 (R 8) (F 8) := by
  refine meets_of_vt (pre := R) (Φ := F) mixed (sgAt_all (P := Try.prog) (pre := R) (Φ := F) (l := sg8) (List.forall_mem_cons.2 ⟨Meets.at (pre := R) (Φ := F) m17, List.forall_mem_cons.2 ⟨Meets.at (pre := R) (Φ := F) m18, List.forall_mem_cons.2 ⟨Meets.at (pre := R) (Φ := F) m20, List.forall_mem_cons.2 ⟨ProcMeets.at1 mp8_0, List.forall_mem_cons.2 ⟨MeetsAt.name, (fun _ h => nomatch h)⟩⟩⟩⟩⟩)) Try.func8 b8 n8 (loops_n 1 k8 fun k hk => match k, hk with | 0, _ => loop_this lf8_0 loopM8_0) e8 fun ds hf _ => ?_
  match ds, hf.flat with
  | [a, b, c, d, e, f, g], ⟨k0, k1, k2, k3, k4, k5, k6, _⟩ =>
    obtain ⟨a, rfl, _⟩ := wf_i64 k0
    obtain ⟨b, rfl, _⟩ := wf_i64 k1
    obtain ⟨c, rfl, _⟩ := wf_i64 k2
    obtain ⟨d, rfl, _⟩ := wf_i64 k3
    obtain ⟨w, rfl, _⟩ := wf_i64 k4
    obtain ⟨h, rfl, _⟩ := wf_i64 k5
    obtain ⟨g, rfl, _⟩ := wf_i64 k6
    have hout := arndD_eq (a, b, c, d) w h g
    have hlp := lpAn_eq w h g 0 (a, b, c, d) []
    simp only [Int.natCast_zero, List.map_nil, List.nil_append] at hlp hout
    simp only [vt8, VT.ok, Nd.holds, X.outs, X.ds, X.d, Op1.ev, takeD_zero, takeD_cons, List.cons_append, List.nil_append, List.getD_cons_zero, List.getD_cons_succ, D.int_i, D.bool_b, D.lst_l, ite_b, ite_or, implies_true, true_and, F17, R17, F18, R18, F10800, R10800, F8, fn17_eq, sz22, hlp, hout]
    have e : bxB a b c d = bxQ (a, b, c, d) := rfl
    rw [e]
    cases hv : bxQ (a, b, c, d)
    · simp only [Bool.not_false, Bool.true_or, if_true, arnd, hv, Bool.false_and, Bool.false_eq_true, if_false, List.map_nil]
    · cases hs : sz3 w h g
      · simp only [Bool.not_false, Bool.or_true, if_true, arnd, hv, hs, Bool.and_false, Bool.false_eq_true, if_false, List.map_nil]
      · simp only [Bool.not_true, Bool.or_self, Bool.false_eq_true, if_false, arnd, hv, hs, Bool.and_self, if_true]
        exact ⟨fun _ => ⟨w, h, g, 0, (a, b, c, d), [], rfl, hv, hs, by omega, by simp⟩, trivial⟩
theorem cfOv (l : List Bx) (q : Bx) :
    ixPre (dpOv 22) 4 [.l (l.map encQ), .c 22 [.pt [.int .i64, .int .i64, .int .i64, .int .i64]] [.p [.i q.1, .i q.2.1, .i q.2.2.1, .i q.2.2.2]]] ∧ cfFn dyOv 4 [.l (l.map encQ), .c 22 [.pt [.int .i64, .int .i64, .int .i64, .int .i64]] [.p [.i q.1, .i q.2.1, .i q.2.2.1, .i q.2.2.2]]] = [.b (anyN (fun k => ovQ q (l.getD k z4)) l.length)] := by
  refine ⟨fun i hi => ?_, ?_⟩
  · have hi : i < l.length := by simpa [cL] using hi
    show dpOv _ (.c 22 ctQ [.p (encQ q)] :: cellsN 4 (el (l.map encQ) i))
    rw [rowB hi, cellsQ]
    exact ⟨q, _, rfl⟩
  · show [D.b (anyN (fun j => ((dyOv (.c 22 ctQ [.p (encQ q)] :: cellsN 4 (el (l.map encQ) j))).getD 0 default).bool) (l.map encQ).length)] = _
    rw [List.length_map]
    refine congrArg (fun b => [D.b b]) (anyN_congr fun k hk => ?_)
    rw [rowB hk, cellsQ]; rfl
theorem snoc_le {α : Type} (acc : List α) (z : α) (K : Int) (h : (acc.length : Int) + 1 ≤ K) : decide (((acc ++ [z]).length : Int) ≤ K) = true := decide_eq_true (by rw [List.length_append]; simp only [List.length_singleton]; omega)
theorem one1_len (p : Nat → Bool) (j : Nat) : (one1 p j).length ≤ 1 := by unfold one1; split <;> simp
theorem lpFr_eq (l obs : List Bx) (i : Nat) (acc : List (List D)) : lpFr [.l (obs.map encQ), .l (l.map encQ), .i (l.length : Int), .i (i : Int), .l acc] = [.i 0, .i (l.length : Int), .l (acc ++ collN (one1 (freeAt l obs)) l.length i)] := by
  simp only [lpFr, map_decQ, List.length_map, Int.toNat_natCast]
theorem loopM9_0 : LoopMeets Try.prog F (R L9_0.key) L9_0 lb9_0 := by
  refine loop_meets (pre := R) mixed (sgAt_all (P := Try.prog) (pre := R) (Φ := F) (l := sg9) (List.forall_mem_cons.2 ⟨Meets.at (pre := R) (Φ := F) m17, List.forall_mem_cons.2 ⟨Meets.at (pre := R) (Φ := F) m21, (fun _ h => nomatch h)⟩⟩)) (loops_n 0 lk9_0 fun k hk => by omega) L9_0 (fun ρ => ((ρ.getD 2 default).int - (ρ.getD 3 default).int).toNat) le9_0 fun ρ _ hp => ?_
  obtain ⟨l, obs, j, acc, rfl, hj, h64, hm, hacc⟩ : prFr ρ := hp
  by_cases hlt : j < l.length
  · obtain ⟨c1, c2⟩ := cfOv obs (l.getD j z4)
    have hn : ∀ acc' : List (List D), acc ++ one1 (freeAt l obs) j = acc' → RoundOk F (R L9_0.key) (fun ρ => ((ρ.getD 2 default).int - (ρ.getD 3 default).int).toNat) L9_0 [.l (obs.map encQ), .l (l.map encQ), .i (l.length : Int), .i (j : Int), .l acc] [.i (-1), .i ((j + 1 : Nat) : Int), .l acc'] := fun acc' h => by
      subst h
      refine round_next ⟨⟨l, obs, j + 1, _, rfl, by omega, h64, hm, ?_⟩, ?_, ?_⟩
      · have := one1_len (freeAt l obs) j
        rw [List.length_append]; omega
      · show ((l.length : Int) - ((j + 1 : Nat) : Int)).toNat < ((l.length : Int) - (j : Int)).toNat
        omega
      · show lpFr [.l (obs.map encQ), .l (l.map encQ), .i (l.length : Int), .i ((j + 1 : Nat) : Int), .l (acc ++ one1 (freeAt l obs) j)] = lpFr [.l (obs.map encQ), .l (l.map encQ), .i (l.length : Int), .i (j : Int), .l acc]
        rw [lpFr_eq, lpFr_eq, coll_next (i := j) hlt acc]
    simp (disch := omega) only [rt9_0, VT.ok, Nd.holds, X.outs, X.ds, X.d, Op1.ev, Op2.ev, takeD_zero, takeD_cons, List.cons_append, List.nil_append, List.getD_cons_zero, List.getD_cons_succ, D.int_i, D.bool_b, D.lst_l, ite_b, ite_and, Int.toNat_natCast, List.length_map, implies_true, true_and, F17, R17, F21, R21, ↓reduceIte, dle_t, dlt_t, w64', snoc_le, rowQz, encQ, fn17_eq, c2]
    refine ⟨fun _ => c1, ?_⟩
    show if freeAt l obs j = true then _ else _
    cases hc : freeAt l obs j
    · rw [if_neg (by decide)]
      exact hn _ (by rw [one1, hc, if_neg (by decide), List.append_nil])
    · rw [if_pos rfl]
      exact hn _ (by rw [one1, hc, if_pos rfl])
  · have hj : j = l.length := by omega
    subst hj
    simp (disch := omega) only [rt9_0, VT.ok, X.ds, X.d, Op2.ev, List.getD_cons_zero, List.getD_cons_succ, D.int_i, D.bool_b, Bool.false_eq_true, ↓reduceIte, dlt_f]
    refine round_exit (by omega) ?_
    rw [show F L9_0.key = lpFr from rfl, lpFr_eq, coll_end]
theorem freeD_eq (l obs : List Bx) : freeD [.l (l.map encQ), .l (obs.map encQ)] = [.l ((freeL l obs).map encN)] := by simp only [freeD, map_decQ]
theorem m9 : Meets Try.prog 9 S9 (R 9) (F 9) := by
  refine meets_of_vt (pre := R) (Φ := F) mixed (sgAt_all (P := Try.prog) (pre := R) (Φ := F) (l := sg9) (List.forall_mem_cons.2 ⟨Meets.at (pre := R) (Φ := F) m17, List.forall_mem_cons.2 ⟨Meets.at (pre := R) (Φ := F) m21, (fun _ h => nomatch h)⟩⟩)) Try.func9 b9 n9 (loops_n 1 k9 fun k hk => match k, hk with | 0, _ => loop_this lf9_0 loopM9_0) e9 fun ds hf hq => ?_
  obtain ⟨l, obs, rfl, h64, hm⟩ : freePre ds := hq
  have hlp := lpFr_eq l obs 0 []
  simp only [Int.natCast_zero, List.nil_append] at hlp
  simp only [vt9, VT.ok, Nd.holds, X.outs, X.ds, X.d, Op1.ev, takeD_zero, takeD_cons, List.cons_append, List.nil_append, List.getD_cons_zero, List.getD_cons_succ, D.bool_b, D.lst_l, List.length_map, F10900, R10900, F9, freeD_eq, hlp]
  refine ⟨fun _ => ⟨l, obs, 0, [], rfl, by omega, h64, hm, by simp⟩, ?_⟩
  rw [one1_pick]; rfl
theorem m11 : Meets Try.prog 11 S11 (R 11) (F 11) := by
  refine meets_of_vt (pre := R) (Φ := F) mixed (sgAt_all (P := Try.prog) (pre := R) (Φ := F) (l := sg11) (List.forall_mem_cons.2 ⟨Meets.at (pre := R) (Φ := F) m23, (fun _ h => nomatch h)⟩)) Try.func11 b11 n11 (loops_n 0 k11 fun k hk => by omega) e11 fun ds hf hq => ?_
  obtain ⟨x, rfl, hx⟩ := fits1 hf.flat
  obtain ⟨s, rfl, hs⟩ := wf_str hx
  have h20 : s.size ≤ 20 := hq
  have hp : plainD [.s s] = [.b (plainB s)] := rfl
  have hw : widD [.s s] = [.i (wid s)] := rfl
  have w1 : IntKind.i64.wrap (600 * (s.size : Int)) = 600 * (s.size : Int) := w64 (by omega)
  simp only [vt11, VT.ok, Nd.holds, X.outs, X.ds, X.d, Op1.ev, Op2.ev, takeD_zero, takeD_cons, List.cons_append, List.nil_append, List.getD_cons_zero, List.getD_cons_succ, D.int_i, D.bool_b, D.str_s, implies_true, true_and, F23, R23, F11, hp, hw, wid, w1]
  cases h : plainB s <;> rfl
theorem lpTz_eq (xs : List (List D)) (j : Nat) (x y : Int) : lpTz [.l xs, .i (xs.length : Int), .i (j : Int), .i x, .i y] = [.i 0, .i (xs.length : Int), .i (foldN (fun j m => max m (wid (cS (el xs j) 0))) xs.length j x)] := by
  simp only [lpTz, Int.toNat_natCast]
theorem loopM5_0 : LoopMeets Try.prog F (R L5_0.key) L5_0 lb5_0 := by
  refine loop_meets (pre := R) mixed (sgAt_all (P := Try.prog) (pre := R) (Φ := F) (l := sg5) (List.forall_mem_cons.2 ⟨Meets.at (pre := R) (Φ := F) m11, (fun _ h => nomatch h)⟩)) (loops_n 0 lk5_0 fun k hk => by omega) L5_0 (fun ρ => ((ρ.getD 1 default).int - (ρ.getD 2 default).int).toNat) le5_0 fun ρ _ hp => ?_
  obtain ⟨xs, j, x, y, rfl, hj, h64, hs⟩ : prTz ρ := hp
  by_cases hlt : j < xs.length
  · have hw : widD [(xs.getD j []).getD 0 default] = [.i (wid (cS (el xs j) 0))] := rfl
    have hpre : widP [(xs.getD j []).getD 0 default] := hs j hlt
    simp (disch := omega) only [rt5_0, VT.ok, Nd.holds, X.outs, X.ds, X.d, Op1.ev, Op2.ev, takeD_zero, takeD_cons, List.cons_append, List.nil_append, List.getD_cons_zero, List.getD_cons_succ, D.int_i, D.bool_b, D.lst_l, imax, Int.toNat_natCast, implies_true, true_and, F11, R11, ↓reduceIte, dle_t, dlt_t, w64', hw]
    refine ⟨fun _ => hpre, ?_⟩
    refine round_next ⟨⟨xs, j + 1, _, y, rfl, by omega, h64, hs⟩, ?_, ?_⟩
    · show ((xs.length : Int) - ((j + 1 : Nat) : Int)).toNat < ((xs.length : Int) - (j : Int)).toNat
      omega
    · show lpTz [.l xs, .i (xs.length : Int), .i ((j + 1 : Nat) : Int), .i (max x (wid (cS (el xs j) 0))), .i y] = lpTz [.l xs, .i (xs.length : Int), .i (j : Int), .i x, .i y]
      rw [lpTz_eq, lpTz_eq]
      exact congrArg (fun z => [D.i 0, .i (xs.length : Int), .i z]) (fold_next (f := fun j m => max m (wid (cS (el xs j) 0))) (i := j) hlt).symm
  · have hj : j = xs.length := by omega
    subst hj
    simp (disch := omega) only [rt5_0, VT.ok, X.ds, X.d, Op2.ev, List.getD_cons_zero, List.getD_cons_succ, D.int_i, D.bool_b, Bool.false_eq_true, ↓reduceIte, dlt_f]
    refine round_exit (by omega) ?_
    rw [show F L5_0.key = lpTz from rfl, lpTz_eq, fold_end]
theorem m5 : Meets Try.prog 5 S5 (R 5) (F 5) := by
  refine meets_of_vt (pre := R) (Φ := F) mixed (sgAt_all (P := Try.prog) (pre := R) (Φ := F) (l := sg5) (List.forall_mem_cons.2 ⟨Meets.at (pre := R) (Φ := F) m11, (fun _ h => nomatch h)⟩)) Try.func5 b5 n5 (loops_n 1 k5 fun k hk => match k, hk with | 0, _ => loop_this lf5_0 loopM5_0) e5 fun ds hf hq => ?_
  obtain ⟨xs, rfl, h64, hs⟩ : tszP ds := hq
  have w1 : IntKind.i64.wrap (1000 * (xs.length : Int)) = 1000 * (xs.length : Int) := w64 (by omega)
  have hlp := lpTz_eq xs 0 0 (1000 * (xs.length : Int))
  simp only [Int.natCast_zero] at hlp
  simp only [vt5, VT.ok, Nd.holds, X.outs, X.ds, X.d, Op1.ev, Op2.ev, takeD_zero, takeD_cons, List.cons_append, List.nil_append, List.getD_cons_zero, List.getD_cons_succ, D.int_i, D.bool_b, D.lst_l, F10500, R10500, F5, w1, hlp]
  exact ⟨fun _ => ⟨xs, 0, 0, _, rfl, by omega, h64, hs⟩, rfl⟩
end Go.Proofs.Ytoajdhghecjdlaa.rv
