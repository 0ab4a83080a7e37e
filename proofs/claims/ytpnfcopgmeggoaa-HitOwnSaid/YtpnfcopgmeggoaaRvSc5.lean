/-
  Near a path.
-/
import Derived.Test.YtpnfcopgmeggoaaRvSc4
namespace Go.Proofs.Ytpnfcopgmeggoaa.rv
open Go.RV

theorem loopM9_0 : LoopMeets Try.prog F (R L9_0.key) L9_0 lb9_0 := by
  refine loop_meets (pre := R) mixed (sgAt_all (P := Try.prog) (pre := R) (Φ := F) (l := sg9) (List.forall_mem_cons.2 ⟨Meets.at (pre := R) (Φ := F) m22, List.forall_mem_cons.2 ⟨Meets.at (pre := R) (Φ := F) m23, List.forall_mem_cons.2 ⟨Meets.at (pre := R) (Φ := F) m24, List.forall_mem_cons.2 ⟨Meets.at (pre := R) (Φ := F) m25, List.forall_mem_cons.2 ⟨Meets.at (pre := R) (Φ := F) m26, (fun _ h => nomatch h)⟩⟩⟩⟩⟩)) (loops_n 0 lk9_0 fun k hk => by omega) L9_0 (fun ρ => (((ρ.getD 0 default).lst.length : Int) - (ρ.getD 3 default).int).toNat) le9_0 fun ρ _ hq => ?_
  obtain ⟨xs, t, v, px, py, j, rfl, hj, h1, h2, h3⟩ : prNr ρ := hq
  obtain ⟨g1, g2, g3, g4⟩ := pathB_iff.1 h1
  by_cases hlt : j < xs.length
  · have hs : segOk (pX xs (j - 1)) (pY xs (j - 1)) (pX xs j) (pY xs j) px py t := ⟨g3 (j - 1) (by omega), g3 j hlt, h2, h3⟩
    have hb9 : fn26 [(xs.getD (j - 1) []).getD 0 default, (xs.getD (j - 1) []).getD 1 default, (xs.getD j []).getD 0 default, (xs.getD j []).getD 1 default, .i px, .i py, .i t] = [.b (besB (pX xs (j - 1)) (pY xs (j - 1)) (pX xs j) (pY xs j) px py t)] := beside_ok hs
    have e : besB (pX xs (j - 1)) (pY xs (j - 1)) (pX xs j) (pY xs j) px py t = bsJ xs px py t j := by
      unfold bsJ
      rw [decide_eq_true (by omega), Bool.true_and]
    rw [e] at hb9
    simp (disch := omega) only [rt9_0, VT.ok, Nd.holds, X.outs, X.ds, X.d, Op1.ev, Op2.ev, takeD_zero, takeD_cons, List.cons_append, List.nil_append, List.getD_cons_zero, List.getD_cons_succ, D.int_i, D.bool_b, D.lst_l, Int.toNat_natCast, implies_true, true_and, F26, R26, ↓reduceIte, dle_t, dlt_t, w64', pred_nat, hb9]
    show if bsJ xs px py t j = true then _ else _
    cases hb : bsJ xs px py t j
    · simp only [Bool.false_eq_true, if_false]
      refine round_next ⟨⟨xs, t, v, px, py, j + 1, rfl, by omega, h1, h2, h3⟩, ?_, ?_⟩
      · show ((xs.length : Int) - ((j + 1 : Nat) : Int)).toNat < ((xs.length : Int) - (j : Int)).toNat
        omega
      · show lpNr [.l xs, .i t, v, .i ((j + 1 : Nat) : Int), .i px, .i py] = lpNr [.l xs, .i t, v, .i (j : Int), .i px, .i py]
        simp only [lpNr, Int.toNat_natCast]
        exact scan_next hlt hb
    · simp only [if_true]
      refine round_exit (by omega) ?_
      show lpNr [.l xs, .i t, v, .i (j : Int), .i px, .i py] = _
      simp only [lpNr, Int.toNat_natCast]
      exact scan_hit hlt hb
  · have hj' : j = xs.length := by omega
    subst hj'
    simp (disch := omega) only [rt9_0, VT.ok, X.ds, X.d, Op1.ev, Op2.ev, List.getD_cons_zero, List.getD_cons_succ, D.int_i, D.bool_b, D.lst_l, Bool.false_eq_true, ↓reduceIte, dlt_f]
    refine round_exit (by omega) ?_
    show lpNr [.l xs, .i t, v, .i (xs.length : Int), .i px, .i py] = _
    simp only [lpNr, Int.toNat_natCast]
    exact scan_end
theorem loopM10_0 : LoopMeets Try.prog F (R L10_0.key) L10_0 lb10_0 := by
  refine loop_meets (pre := R) mixed (sgAt_all (P := Try.prog) (pre := R) (Φ := F) (l := sg10) (List.forall_mem_cons.2 ⟨Meets.at (pre := R) (Φ := F) m21, List.forall_mem_cons.2 ⟨Meets.at (pre := R) (Φ := F) m27, List.forall_mem_cons.2 ⟨Meets.at (pre := R) (Φ := F) m28, List.forall_mem_cons.2 ⟨Meets.at (pre := R) (Φ := F) m29, (fun _ h => nomatch h)⟩⟩⟩⟩)) (loops_n 0 lk10_0 fun k hk => by omega) L10_0 (fun ρ => (((ρ.getD 0 default).lst.length : Int) - (ρ.getD 3 default).int).toNat) le10_0 fun ρ _ hq => ?_
  obtain ⟨xs, t, v, px, py, j, rfl, hj, h1, h2, h3⟩ : prNr ρ := hq
  obtain ⟨g1, g2, g3, g4⟩ := pathB_iff.1 h1
  by_cases hlt : j < xs.length
  · have hs : segOk (pX xs (j - 1)) (pY xs (j - 1)) (pX xs j) (pY xs j) px py t := ⟨g3 (j - 1) (by omega), g3 j hlt, h2, h3⟩
    have hb9 : fn29 [(xs.getD (j - 1) []).getD 0 default, (xs.getD (j - 1) []).getD 1 default, (xs.getD j []).getD 0 default, (xs.getD j []).getD 1 default, .i px, .i py, .i t] = [.b (segB (pX xs (j - 1)) (pY xs (j - 1)) (pX xs j) (pY xs j) px py t)] := segment_ok hs
    have e : segB (pX xs (j - 1)) (pY xs (j - 1)) (pX xs j) (pY xs j) px py t = sgJ xs px py t j := by
      unfold sgJ
      rw [decide_eq_true (by omega), Bool.true_and]
    rw [e] at hb9
    simp (disch := omega) only [rt10_0, VT.ok, Nd.holds, X.outs, X.ds, X.d, Op1.ev, Op2.ev, takeD_zero, takeD_cons, List.cons_append, List.nil_append, List.getD_cons_zero, List.getD_cons_succ, D.int_i, D.bool_b, D.lst_l, Int.toNat_natCast, implies_true, true_and, F29, R29, ↓reduceIte, dle_t, dlt_t, w64', pred_nat, hb9]
    show if sgJ xs px py t j = true then _ else _
    cases hb : sgJ xs px py t j
    · simp only [Bool.false_eq_true, if_false]
      refine round_next ⟨⟨xs, t, v, px, py, j + 1, rfl, by omega, h1, h2, h3⟩, ?_, ?_⟩
      · show ((xs.length : Int) - ((j + 1 : Nat) : Int)).toNat < ((xs.length : Int) - (j : Int)).toNat
        omega
      · show lpNs [.l xs, .i t, v, .i ((j + 1 : Nat) : Int), .i px, .i py] = lpNs [.l xs, .i t, v, .i (j : Int), .i px, .i py]
        simp only [lpNs, Int.toNat_natCast]
        exact scan_next hlt hb
    · simp only [if_true]
      refine round_exit (by omega) ?_
      show lpNs [.l xs, .i t, v, .i (j : Int), .i px, .i py] = _
      simp only [lpNs, Int.toNat_natCast]
      exact scan_hit hlt hb
  · have hj' : j = xs.length := by omega
    subst hj'
    simp (disch := omega) only [rt10_0, VT.ok, X.ds, X.d, Op1.ev, Op2.ev, List.getD_cons_zero, List.getD_cons_succ, D.int_i, D.bool_b, D.lst_l, Bool.false_eq_true, ↓reduceIte, dlt_f]
    refine round_exit (by omega) ?_
    show lpNs [.l xs, .i t, v, .i (xs.length : Int), .i px, .i py] = _
    simp only [lpNs, Int.toNat_natCast]
    exact scan_end
theorem m9 : Meets Try.prog 9 S9 (R 9) (F 9) := by
  refine meets_of_vt (pre := R) (Φ := F) mixed (sgAt_all (P := Try.prog) (pre := R) (Φ := F) (l := sg9) (List.forall_mem_cons.2 ⟨Meets.at (pre := R) (Φ := F) m22, List.forall_mem_cons.2 ⟨Meets.at (pre := R) (Φ := F) m23, List.forall_mem_cons.2 ⟨Meets.at (pre := R) (Φ := F) m24, List.forall_mem_cons.2 ⟨Meets.at (pre := R) (Φ := F) m25, List.forall_mem_cons.2 ⟨Meets.at (pre := R) (Φ := F) m26, (fun _ h => nomatch h)⟩⟩⟩⟩⟩)) Try.func9 b9 n9 (loops_n 1 k9 fun k hk => match k, hk with | 0, _ => loop_this lf9_0 loopM9_0) e9 fun ds hf _ => ?_
  obtain ⟨x, a, b, c, rfl, hx, ha, hb, hc⟩ := fits4 hf.flat
  obtain ⟨xs, rfl, hm, hfx⟩ := wf_sl hx
  obtain ⟨px, rfl, _⟩ := wf_i64 ha
  obtain ⟨py, rfl, _⟩ := wf_i64 hb
  obtain ⟨t, rfl, _⟩ := wf_i64 hc
  by_cases hall : (pathB xs = true ∧ ptB px py = true) ∧ tlB t = true
  · obtain ⟨⟨h1, h2⟩, h3⟩ := hall
    obtain ⟨g1, g2, g3, g4⟩ := pathB_iff.1 h1
    have hn9 : fn25 [(xs.getD (Int.toNat 0) []).getD 0 default, (xs.getD (Int.toNat 0) []).getD 1 default, .i px, .i py, .i t] = [.b (ner (pX xs 0) (pY xs 0) px py t)] := nearby_ok (g3 0 (by omega)) h2 h3
    have hpre : prNr [.l xs, .i t, .b false, .i 1, .i px, .i py] := ⟨xs, t, _, px, py, 1, rfl, by omega, h1, h2, h3⟩
    simp (disch := omega) only [vt9, VT.ok, Nd.holds, X.outs, X.ds, X.d, Op1.ev, Op2.ev, takeD_zero, takeD_cons, List.cons_append, List.nil_append, List.getD_cons_zero, List.getD_cons_succ, D.int_i, D.bool_b, D.lst_l, Bool.false_eq_true, implies_true, true_and, F23, R23, F22, R22, F24, R24, F25, R25, F10900, R10900, F9, ↓reduceIte, dlt_t, pathD, cL, fn23_eq, fn24_eq, h1, h2, h3, Bool.not_true, hn9, nearD, nearB, cI, Bool.true_and, ← near_code h1]
    cases hn : ner (pX xs 0) (pY xs 0) px py t
    · simp only [Bool.false_eq_true, if_false, Bool.false_or]
      refine ⟨fun _ => hpre, ?_⟩
      rcases any_scan (p := bsJ xs px py t) (hit := fun j => [D.i 0, .b true, .i (j : Int)]) (miss := fun j => [D.i 1, .b false, .i (j : Int)]) (n := xs.length) (i := 1) (fun j hj => by rw [show j = 0 by omega]; rfl) (by omega) with ⟨k1, j, k2, k3, k4, _, k6⟩ | ⟨k1, k2⟩
      · have k6' : lpNr [.l xs, .i t, .b false, .i 1, .i px, .i py] = _ := k6
        rw [k6', k1]; rfl
      · have k2' : lpNr [.l xs, .i t, .b false, .i 1, .i px, .i py] = _ := k2
        rw [k2', k1]; rfl
    · simp only [if_true, Bool.true_or]
  · have hc : (((!pathB xs) || !ptB px py) || !tlB t) = true := by
      cases h1 : pathB xs <;> cases h2 : ptB px py <;> cases h3 : tlB t <;> first | rfl | exact absurd ⟨⟨h1, h2⟩, h3⟩ hall
    have hd : ((pathB xs && ptB px py) && tlB t) = false := by
      cases h1 : pathB xs <;> cases h2 : ptB px py <;> cases h3 : tlB t <;> first | rfl | exact absurd ⟨⟨h1, h2⟩, h3⟩ hall
    simp only [vt9, VT.ok, Nd.holds, X.outs, X.ds, X.d, Op1.ev, Op2.ev, takeD_zero, takeD_cons, List.cons_append, List.nil_append, List.getD_cons_zero, List.getD_cons_succ, D.int_i, D.bool_b, D.lst_l, ite_b, ite_or, if_true, implies_true, true_and, and_true, takeD1_0, F23, R23, F22, R22, F24, R24, F25, R25, F10900, R10900, F9, pathD, cL, fn23_eq, fn24_eq, hc, nearD, nearB, cI, hd, Bool.false_and]
theorem m10 : Meets Try.prog 10 S10 (R 10) (F 10) := by
  refine meets_of_vt (pre := R) (Φ := F) mixed (sgAt_all (P := Try.prog) (pre := R) (Φ := F) (l := sg10) (List.forall_mem_cons.2 ⟨Meets.at (pre := R) (Φ := F) m21, List.forall_mem_cons.2 ⟨Meets.at (pre := R) (Φ := F) m27, List.forall_mem_cons.2 ⟨Meets.at (pre := R) (Φ := F) m28, List.forall_mem_cons.2 ⟨Meets.at (pre := R) (Φ := F) m29, (fun _ h => nomatch h)⟩⟩⟩⟩)) Try.func10 b10 n10 (loops_n 1 k10 fun k hk => match k, hk with | 0, _ => loop_this lf10_0 loopM10_0) e10 fun ds hf _ => ?_
  obtain ⟨x, a, b, c, rfl, hx, ha, hb, hc⟩ := fits4 hf.flat
  obtain ⟨xs, rfl, hm, hfx⟩ := wf_sl hx
  obtain ⟨px, rfl, _⟩ := wf_i64 ha
  obtain ⟨py, rfl, _⟩ := wf_i64 hb
  obtain ⟨t, rfl, _⟩ := wf_i64 hc
  by_cases hall : (pathB xs = true ∧ ptB px py = true) ∧ tlB t = true
  · obtain ⟨⟨h1, h2⟩, h3⟩ := hall
    obtain ⟨g1, g2, g3, g4⟩ := pathB_iff.1 h1
    have hn9 : fn29 [(xs.getD (Int.toNat 0) []).getD 0 default, (xs.getD (Int.toNat 0) []).getD 1 default, (xs.getD (Int.toNat 0) []).getD 0 default, (xs.getD (Int.toNat 0) []).getD 1 default, .i px, .i py, .i t] = [.b (ner (pX xs 0) (pY xs 0) px py t)] := by
      rw [← seg_same]
      exact segment_ok ⟨g3 0 (by omega), g3 0 (by omega), h2, h3⟩
    have hpre : prNr [.l xs, .i t, .b false, .i 1, .i px, .i py] := ⟨xs, t, _, px, py, 1, rfl, by omega, h1, h2, h3⟩
    by_cases hl : (xs.length : Int) = 1
    · simp (disch := omega) only [vt10, VT.ok, Nd.holds, X.outs, X.ds, X.d, Op1.ev, Op2.ev, takeD_zero, takeD_cons, List.cons_append, List.nil_append, List.getD_cons_zero, List.getD_cons_succ, D.int_i, D.bool_b, D.lst_l, Bool.false_eq_true, implies_true, and_true, F27, R27, F21, R21, F28, R28, F29, R29, F10, ↓reduceIte, dlt_t, beq_t, pathD, cL, fn27_eq, fn28_eq, h1, h2, h3, Bool.not_true, hn9, nearD, nearB, cI, Bool.true_and, if_pos hl]
    · simp (disch := omega) only [vt10, VT.ok, Nd.holds, X.outs, X.ds, X.d, Op1.ev, Op2.ev, takeD_zero, takeD_cons, List.cons_append, List.nil_append, List.getD_cons_zero, List.getD_cons_succ, D.int_i, D.bool_b, D.lst_l, Bool.false_eq_true, implies_true, true_and, F27, R27, F21, R21, F28, R28, F11000, R11000, F10, ↓reduceIte, beq_f, pathD, cL, fn27_eq, fn28_eq, h1, h2, h3, Bool.not_true, nearD, nearB, cI, Bool.true_and, if_neg hl]
      refine ⟨fun _ => hpre, ?_⟩
      rcases any_scan (p := sgJ xs px py t) (hit := fun j => [D.i 0, .b true, .i (j : Int)]) (miss := fun j => [D.i 1, .b false, .i (j : Int)]) (n := xs.length) (i := 1) (fun j hj => by rw [show j = 0 by omega]; rfl) (by omega) with ⟨k1, j, k2, k3, k4, _, k6⟩ | ⟨k1, k2⟩
      · have k6' : lpNs [.l xs, .i t, .b false, .i 1, .i px, .i py] = _ := k6
        rw [k6', k1]; rfl
      · have k2' : lpNs [.l xs, .i t, .b false, .i 1, .i px, .i py] = _ := k2
        rw [k2', k1]; rfl
  · have hc : (((!pathB xs) || !ptB px py) || !tlB t) = true := by
      cases h1 : pathB xs <;> cases h2 : ptB px py <;> cases h3 : tlB t <;> first | rfl | exact absurd ⟨⟨h1, h2⟩, h3⟩ hall
    have hd : ((pathB xs && ptB px py) && tlB t) = false := by
      cases h1 : pathB xs <;> cases h2 : ptB px py <;> cases h3 : tlB t <;> first | rfl | exact absurd ⟨⟨h1, h2⟩, h3⟩ hall
    simp only [vt10, VT.ok, Nd.holds, X.outs, X.ds, X.d, Op1.ev, Op2.ev, takeD_zero, takeD_cons, List.cons_append, List.nil_append, List.getD_cons_zero, List.getD_cons_succ, D.int_i, D.bool_b, D.lst_l, ite_b, ite_or, if_true, implies_true, true_and, and_true, takeD1_0, F27, R27, F21, R21, F28, R28, F29, R29, F11000, R11000, F10, pathD, cL, fn27_eq, fn28_eq, hc, nearD, nearB, cI, hd, Bool.false_and]
end Go.Proofs.Ytpnfcopgmeggoaa.rv
