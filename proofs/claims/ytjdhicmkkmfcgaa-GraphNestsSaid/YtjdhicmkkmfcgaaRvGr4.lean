/-
  Graphs: library functions.
-/
import Derived.Test.YtjdhicmkkmfcgaaRvGr3
namespace Go.Proofs.Ytjdhicmkkmfcgaa.rv
open Go.RV

theorem fn36_eq (ds cap : List D) (h : ds.length = 6) (h' : cap.length = 1) : fn36 (ds ++ [.p cap]) = dyNm (.c 36 [.pt [.str]] [.p cap] :: ds) := by
  match ds, h, cap, h' with
  | [a0, a1, a2, a3, a4, a5], _, [b0], _ => rfl
theorem m20049 : Meets Try.prog 20049 S20049 (R 20049) (F 20049) := by
  refine meets_dyn (by decide) rfl fun d ds hf hp => ?_
  obtain ⟨cap, bs, e, hc, ha⟩ : dpNm 36 [.str] 1 6 (d :: ds) := hp
  cases e
  exact ⟨36, [.pt [.str]], [.p cap], S36, _, fn36, rfl, by decide, m36, rfl, rfl, trivial, fn36_eq _ cap ha hc⟩
theorem fn63_eq (ds cap : List D) (h : ds.length = 2) (h' : cap.length = 2) : fn63 (ds ++ [.p cap]) = dyNm (.c 63 [.pt [.str, .int .i64]] [.p cap] :: ds) := by
  match ds, h, cap, h' with
  | [a0, a1], _, [b0, b1], _ => rfl
theorem m20075 : Meets Try.prog 20075 S20075 (R 20075) (F 20075) := by
  refine meets_dyn (by decide) rfl fun d ds hf hp => ?_
  obtain ⟨cap, bs, e, hc, ha⟩ : dpNm 63 [.str, .int .i64] 2 2 (d :: ds) := hp
  cases e
  exact ⟨63, [.pt [.str, .int .i64]], [.p cap], S63, _, fn63, rfl, by decide, m63, rfl, rfl, trivial, fn63_eq _ cap ha hc⟩
theorem fn53_eq (ds cap : List D) (h : ds.length = 2) (h' : cap.length = 2) : fn53 (ds ++ [.p cap]) = dyNm (.c 53 [.pt [.str, .int .i64]] [.p cap] :: ds) := by
  match ds, h, cap, h' with
  | [a0, a1], _, [b0, b1], _ => rfl
theorem m20051 : Meets Try.prog 20051 S20051 (R 20051) (F 20051) := by
  refine meets_dyn (by decide) rfl fun d ds hf hp => ?_
  obtain ⟨cap, bs, e, hc, ha⟩ : dpNm 53 [.str, .int .i64] 2 2 (d :: ds) := hp
  cases e
  exact ⟨53, [.pt [.str, .int .i64]], [.p cap], S53, _, fn53, rfl, by decide, m53, rfl, rfl, trivial, fn53_eq _ cap ha hc⟩
theorem loopM35_0 : LoopMeets Try.prog F (R L35_0.key) L35_0 lb35_0 := by
  refine loop_meets (pre := R) mixed (sgAt_all (P := Try.prog) (pre := R) (Φ := F) (l := sg35) (List.forall_mem_cons.2 ⟨Meets.at (pre := R) (Φ := F) m20049, (fun _ h => nomatch h)⟩)) (loops_n 0 lk35_0 fun k hk => by omega) L35_0 (fun ρ => ((ρ.getD 3 default).int - (ρ.getD 4 default).int).toNat) le35_0 fun ρ _ hq => ?_
  obtain ⟨xs, c, v, j, rfl, hj, hm, hp⟩ : ixPr (dpNm 36 [.str] 1 6) 6 ρ := hq
  rw [maxLen_val] at hm
  by_cases hlt : j < xs.length
  · simp (disch := omega) only [rt35_0, VT.ok, Nd.holds, X.outs, X.ds, X.d, Op1.ev, Op2.ev, List.cons_append, List.nil_append, List.getD_cons_zero, List.getD_cons_succ, D.int_i, D.bool_b, D.lst_l, Int.toNat_natCast, implies_true, true_and, takeD1_0, F20049, R20049, ↓reduceIte, dle_t, dlt_t, w64']
    refine ⟨fun _ => hp j hlt, ?_⟩
    show if ((dyNm (c :: cellsN 6 (el xs j))).getD 0 default).bool = true then _ else _
    cases hb : ((dyNm (c :: cellsN 6 (el xs j))).getD 0 default).bool
    · simp only [Bool.false_eq_true, if_false]
      refine round_next ⟨⟨xs, c, v, j + 1, rfl, by omega, hm, hp⟩, ?_, ?_⟩
      · show ((xs.length : Int) - ((j + 1 : Nat) : Int)).toNat < ((xs.length : Int) - (j : Int)).toNat
        omega
      · show ixLp dyNm 6 [.l xs, c, v, .i (xs.length : Int), .i ((j + 1 : Nat) : Int)] = ixLp dyNm 6 [.l xs, c, v, .i (xs.length : Int), .i (j : Int)]
        simp only [ixLp, Int.toNat_natCast]
        exact scan_next hlt hb
    · simp only [if_true]
      refine round_exit (by omega) ?_
      show ixLp dyNm 6 [.l xs, c, v, .i (xs.length : Int), .i (j : Int)] = _
      simp only [ixLp, Int.toNat_natCast]
      exact scan_hit hlt hb
  · have hj' : j = xs.length := by omega
    subst hj'
    simp (disch := omega) only [rt35_0, VT.ok, X.ds, X.d, Op2.ev, List.getD_cons_zero, List.getD_cons_succ, D.int_i, D.bool_b, Bool.false_eq_true, ↓reduceIte, dlt_f]
    refine round_exit (by omega) ?_
    show ixLp dyNm 6 [.l xs, c, v, .i (xs.length : Int), .i (xs.length : Int)] = _
    simp only [ixLp, Int.toNat_natCast]
    exact scan_end
theorem m35 : Meets Try.prog 35 S35 (R 35) (F 35) := by
  refine meets_of_vt (pre := R) (Φ := F) mixed (sgAt_all (P := Try.prog) (pre := R) (Φ := F) (l := sg35) (List.forall_mem_cons.2 ⟨Meets.at (pre := R) (Φ := F) m20049, (fun _ h => nomatch h)⟩)) Try.func35 b35 n35 (loops_n 1 k35 fun k hk => match k, hk with | 0, _ => loop_this lf35_0 loopM35_0) e35 fun ds hf hq => ?_
  obtain ⟨x, c, rfl, hx, _⟩ := fits2 hf.flat
  obtain ⟨xs, rfl, hm, _⟩ := wf_sl hx
  have hq : ∀ i, i < xs.length → (dpNm 36 [.str] 1 6) (c :: cellsN 6 (el xs i)) := hq
  have hpre : ixPr (dpNm 36 [.str] 1 6) 6 [.l xs, c, .i 0, .i (xs.length : Int), .i 0] := ⟨xs, c, .i 0, 0, rfl, by omega, hm, hq⟩
  simp only [vt35, VT.ok, Nd.holds, X.outs, X.ds, X.d, Op1.ev, Op2.ev, List.cons_append, List.nil_append, List.getD_cons_zero, List.getD_cons_succ, D.int_i, D.bool_b, D.lst_l, F13500, R13500, F35]
  refine ⟨fun _ => hpre, ?_⟩
  simp only [ixLp, ixFn, Int.toNat_zero, Nat.sub_zero, scan_fs, ixI, cL, List.getD_cons_zero, List.getD_cons_succ, D.lst_l]
  split <;> rfl
theorem loopM67_0 : LoopMeets Try.prog F (R L67_0.key) L67_0 lb67_0 := by
  refine loop_meets (pre := R) mixed (sgAt_all (P := Try.prog) (pre := R) (Φ := F) (l := sg67) (List.forall_mem_cons.2 ⟨Meets.at (pre := R) (Φ := F) m20075, (fun _ h => nomatch h)⟩)) (loops_n 0 lk67_0 fun k hk => by omega) L67_0 (fun ρ => ((ρ.getD 3 default).int - (ρ.getD 4 default).int).toNat) le67_0 fun ρ _ hq => ?_
  obtain ⟨xs, c, v, j, rfl, hj, hm, hp⟩ : ixPr (dpNm 63 [.str, .int .i64] 2 2) 2 ρ := hq
  rw [maxLen_val] at hm
  by_cases hlt : j < xs.length
  · simp (disch := omega) only [rt67_0, VT.ok, Nd.holds, X.outs, X.ds, X.d, Op1.ev, Op2.ev, List.cons_append, List.nil_append, List.getD_cons_zero, List.getD_cons_succ, D.int_i, D.bool_b, D.lst_l, Int.toNat_natCast, implies_true, true_and, takeD1_0, F20075, R20075, ↓reduceIte, dle_t, dlt_t, w64']
    refine ⟨fun _ => hp j hlt, ?_⟩
    show if ((dyNm (c :: cellsN 2 (el xs j))).getD 0 default).bool = true then _ else _
    cases hb : ((dyNm (c :: cellsN 2 (el xs j))).getD 0 default).bool
    · simp only [Bool.false_eq_true, if_false]
      refine round_next ⟨⟨xs, c, v, j + 1, rfl, by omega, hm, hp⟩, ?_, ?_⟩
      · show ((xs.length : Int) - ((j + 1 : Nat) : Int)).toNat < ((xs.length : Int) - (j : Int)).toNat
        omega
      · show ixLp dyNm 2 [.l xs, c, v, .i (xs.length : Int), .i ((j + 1 : Nat) : Int)] = ixLp dyNm 2 [.l xs, c, v, .i (xs.length : Int), .i (j : Int)]
        simp only [ixLp, Int.toNat_natCast]
        exact scan_next hlt hb
    · simp only [if_true]
      refine round_exit (by omega) ?_
      show ixLp dyNm 2 [.l xs, c, v, .i (xs.length : Int), .i (j : Int)] = _
      simp only [ixLp, Int.toNat_natCast]
      exact scan_hit hlt hb
  · have hj' : j = xs.length := by omega
    subst hj'
    simp (disch := omega) only [rt67_0, VT.ok, X.ds, X.d, Op2.ev, List.getD_cons_zero, List.getD_cons_succ, D.int_i, D.bool_b, Bool.false_eq_true, ↓reduceIte, dlt_f]
    refine round_exit (by omega) ?_
    show ixLp dyNm 2 [.l xs, c, v, .i (xs.length : Int), .i (xs.length : Int)] = _
    simp only [ixLp, Int.toNat_natCast]
    exact scan_end
theorem m67 : Meets Try.prog 67 S67 (R 67) (F 67) := by
  refine meets_of_vt (pre := R) (Φ := F) mixed (sgAt_all (P := Try.prog) (pre := R) (Φ := F) (l := sg67) (List.forall_mem_cons.2 ⟨Meets.at (pre := R) (Φ := F) m20075, (fun _ h => nomatch h)⟩)) Try.func67 b67 n67 (loops_n 1 k67 fun k hk => match k, hk with | 0, _ => loop_this lf67_0 loopM67_0) e67 fun ds hf hq => ?_
  obtain ⟨x, c, rfl, hx, _⟩ := fits2 hf.flat
  obtain ⟨xs, rfl, hm, _⟩ := wf_sl hx
  have hq : ∀ i, i < xs.length → (dpNm 63 [.str, .int .i64] 2 2) (c :: cellsN 2 (el xs i)) := hq
  have hpre : ixPr (dpNm 63 [.str, .int .i64] 2 2) 2 [.l xs, c, .i 0, .i (xs.length : Int), .i 0] := ⟨xs, c, .i 0, 0, rfl, by omega, hm, hq⟩
  simp only [vt67, VT.ok, Nd.holds, X.outs, X.ds, X.d, Op1.ev, Op2.ev, List.cons_append, List.nil_append, List.getD_cons_zero, List.getD_cons_succ, D.int_i, D.bool_b, D.lst_l, F16700, R16700, F67]
  refine ⟨fun _ => hpre, ?_⟩
  simp only [ixLp, ixFn, Int.toNat_zero, Nat.sub_zero, scan_fs, ixI, cL, List.getD_cons_zero, List.getD_cons_succ, D.lst_l]
  split <;> rfl
theorem loopM64_0 : LoopMeets Try.prog F (R L64_0.key) L64_0 lb64_0 := by
  refine loop_meets (pre := R) mixed (sgAt_all (P := Try.prog) (pre := R) (Φ := F) (l := sg64) (List.forall_mem_cons.2 ⟨Meets.at (pre := R) (Φ := F) m20051, (fun _ h => nomatch h)⟩)) (loops_n 0 lk64_0 fun k hk => by omega) L64_0 (fun ρ => ((ρ.getD 3 default).int - (ρ.getD 4 default).int).toNat) le64_0 fun ρ _ hq => ?_
  obtain ⟨xs, c, v, j, rfl, hj, hm, hp⟩ : ixPr (dpNm 53 [.str, .int .i64] 2 2) 2 ρ := hq
  rw [maxLen_val] at hm
  by_cases hlt : j < xs.length
  · simp (disch := omega) only [rt64_0, VT.ok, Nd.holds, X.outs, X.ds, X.d, Op1.ev, Op2.ev, List.cons_append, List.nil_append, List.getD_cons_zero, List.getD_cons_succ, D.int_i, D.bool_b, D.lst_l, Int.toNat_natCast, implies_true, true_and, takeD1_0, F20051, R20051, ↓reduceIte, dle_t, dlt_t, w64']
    refine ⟨fun _ => hp j hlt, ?_⟩
    show if ((dyNm (c :: cellsN 2 (el xs j))).getD 0 default).bool = true then _ else _
    cases hb : ((dyNm (c :: cellsN 2 (el xs j))).getD 0 default).bool
    · simp only [Bool.false_eq_true, if_false]
      refine round_next ⟨⟨xs, c, v, j + 1, rfl, by omega, hm, hp⟩, ?_, ?_⟩
      · show ((xs.length : Int) - ((j + 1 : Nat) : Int)).toNat < ((xs.length : Int) - (j : Int)).toNat
        omega
      · show ixLp dyNm 2 [.l xs, c, v, .i (xs.length : Int), .i ((j + 1 : Nat) : Int)] = ixLp dyNm 2 [.l xs, c, v, .i (xs.length : Int), .i (j : Int)]
        simp only [ixLp, Int.toNat_natCast]
        exact scan_next hlt hb
    · simp only [if_true]
      refine round_exit (by omega) ?_
      show ixLp dyNm 2 [.l xs, c, v, .i (xs.length : Int), .i (j : Int)] = _
      simp only [ixLp, Int.toNat_natCast]
      exact scan_hit hlt hb
  · have hj' : j = xs.length := by omega
    subst hj'
    simp (disch := omega) only [rt64_0, VT.ok, X.ds, X.d, Op2.ev, List.getD_cons_zero, List.getD_cons_succ, D.int_i, D.bool_b, Bool.false_eq_true, ↓reduceIte, dlt_f]
    refine round_exit (by omega) ?_
    show ixLp dyNm 2 [.l xs, c, v, .i (xs.length : Int), .i (xs.length : Int)] = _
    simp only [ixLp, Int.toNat_natCast]
    exact scan_end
theorem m64 : Meets Try.prog 64 S64 (R 64) (F 64) := by
  refine meets_of_vt (pre := R) (Φ := F) mixed (sgAt_all (P := Try.prog) (pre := R) (Φ := F) (l := sg64) (List.forall_mem_cons.2 ⟨Meets.at (pre := R) (Φ := F) m20051, (fun _ h => nomatch h)⟩)) Try.func64 b64 n64 (loops_n 1 k64 fun k hk => match k, hk with | 0, _ => loop_this lf64_0 loopM64_0) e64 fun ds hf hq => ?_
  obtain ⟨x, c, rfl, hx, _⟩ := fits2 hf.flat
  obtain ⟨xs, rfl, hm, _⟩ := wf_sl hx
  have hq : ∀ i, i < xs.length → (dpNm 53 [.str, .int .i64] 2 2) (c :: cellsN 2 (el xs i)) := hq
  have hpre : ixPr (dpNm 53 [.str, .int .i64] 2 2) 2 [.l xs, c, .i 0, .i (xs.length : Int), .i 0] := ⟨xs, c, .i 0, 0, rfl, by omega, hm, hq⟩
  simp only [vt64, VT.ok, Nd.holds, X.outs, X.ds, X.d, Op1.ev, Op2.ev, List.cons_append, List.nil_append, List.getD_cons_zero, List.getD_cons_succ, D.int_i, D.bool_b, D.lst_l, F16400, R16400, F64]
  refine ⟨fun _ => hpre, ?_⟩
  simp only [ixLp, ixFn, Int.toNat_zero, Nat.sub_zero, scan_fs, ixI, cL, List.getD_cons_zero, List.getD_cons_succ, D.lst_l]
  split <;> rfl
theorem m62 : Meets Try.prog 62 S62 (R 62) (F 62) := by
  refine meets_of_vt (pre := R) (Φ := F) mixed (sgAt_all (P := Try.prog) (pre := R) (Φ := F) (l := sg62) (List.forall_mem_cons.2 ⟨Meets.at (pre := R) (Φ := F) m67, (fun _ h => nomatch h)⟩)) Try.func62 b62 n62 (loops_n 0 k62 fun k hk => by omega) e62 fun ds hf hq => ?_
  obtain ⟨x, c, rfl, hx, _⟩ := fits2 hf.flat
  simp only [vt62, VT.ok, Nd.holds, X.outs, X.ds, X.d, Op2.ev, takeD_zero, takeD_cons, List.cons_append, List.nil_append, List.getD_cons_zero, List.getD_cons_succ, D.int_i, D.bool_b, and_true, F67, R67, F62, ixFn, cfFn, ixI_any]
  exact fun _ => hq
theorem m52 : Meets Try.prog 52 S52 (R 52) (F 52) := by
  refine meets_of_vt (pre := R) (Φ := F) mixed (sgAt_all (P := Try.prog) (pre := R) (Φ := F) (l := sg52) (List.forall_mem_cons.2 ⟨Meets.at (pre := R) (Φ := F) m64, (fun _ h => nomatch h)⟩)) Try.func52 b52 n52 (loops_n 0 k52 fun k hk => by omega) e52 fun ds hf hq => ?_
  obtain ⟨x, c, rfl, hx, _⟩ := fits2 hf.flat
  simp only [vt52, VT.ok, Nd.holds, X.outs, X.ds, X.d, Op2.ev, takeD_zero, takeD_cons, List.cons_append, List.nil_append, List.getD_cons_zero, List.getD_cons_succ, D.int_i, D.bool_b, and_true, F64, R64, F52, ixFn, cfFn, ixI_any]
  exact fun _ => hq
theorem loopM59_0 : LoopMeets Try.prog F (R L59_0.key) L59_0 lb59_0 := by
  refine loop_meets (pre := R) mixed (sgAt_all (P := Try.prog) (pre := R) (Φ := F) (l := sg59) ((fun _ h => nomatch h))) (loops_n 0 lk59_0 fun k hk => by omega) L59_0 (fun ρ => ((ρ.getD 3 default).int - (ρ.getD 4 default).int).toNat) le59_0 fun ρ _ hq => ?_
  obtain ⟨xs, m, v, j, rfl, hj, hm⟩ : iiPr ρ := hq
  rw [maxLen_val] at hm
  by_cases hlt : j < xs.length
  · simp (disch := omega) only [rt59_0, VT.ok, Nd.holds, X.ds, X.d, Op1.ev, Op2.ev, List.getD_cons_zero, List.getD_cons_succ, D.int_i, D.bool_b, D.lst_l, Int.toNat_natCast, implies_true, true_and, ↓reduceIte, dle_t, dlt_t, w64']
    show if (m == cI (el xs j) 0) = true then _ else _
    cases hb : (m == cI (el xs j) 0)
    · simp only [Bool.false_eq_true, if_false]
      refine round_next ⟨⟨xs, m, v, j + 1, rfl, by omega, hm⟩, ?_, ?_⟩
      · show ((xs.length : Int) - ((j + 1 : Nat) : Int)).toNat < ((xs.length : Int) - (j : Int)).toNat
        omega
      · show iiLp [.l xs, .i m, v, .i (xs.length : Int), .i ((j + 1 : Nat) : Int)] = iiLp [.l xs, .i m, v, .i (xs.length : Int), .i (j : Int)]
        simp only [iiLp, Int.toNat_natCast]
        exact scan_next hlt hb
    · simp only [if_true]
      refine round_exit (by omega) ?_
      show iiLp [.l xs, .i m, v, .i (xs.length : Int), .i (j : Int)] = _
      simp only [iiLp, Int.toNat_natCast]
      exact scan_hit hlt hb
  · have hj' : j = xs.length := by omega
    subst hj'
    simp (disch := omega) only [rt59_0, VT.ok, X.ds, X.d, Op2.ev, List.getD_cons_zero, List.getD_cons_succ, D.int_i, D.bool_b, Bool.false_eq_true, ↓reduceIte, dlt_f]
    refine round_exit (by omega) ?_
    show iiLp [.l xs, .i m, v, .i (xs.length : Int), .i (xs.length : Int)] = _
    simp only [iiLp, Int.toNat_natCast]
    exact scan_end
theorem m59 : Meets Try.prog 59 S59 (R 59) (F 59) := by
  refine meets_of_vt (pre := R) (Φ := F) mixed (sgAt_all (P := Try.prog) (pre := R) (Φ := F) (l := sg59) ((fun _ h => nomatch h))) Try.func59 b59 n59 (loops_n 1 k59 fun k hk => match k, hk with | 0, _ => loop_this lf59_0 loopM59_0) e59 fun ds hf hq => ?_
  obtain ⟨x, y, rfl, hx, hy⟩ := fits2 hf.flat
  obtain ⟨xs, rfl, hm, _⟩ := wf_sl hx
  obtain ⟨m, rfl, _⟩ := wf_i64 hy
  have hpre : iiPr [.l xs, .i m, .i 0, .i (xs.length : Int), .i 0] := ⟨xs, m, .i 0, 0, rfl, by omega, hm⟩
  simp only [vt59, VT.ok, Nd.holds, X.outs, X.ds, X.d, Op1.ev, Op2.ev, List.cons_append, List.nil_append, List.getD_cons_zero, List.getD_cons_succ, D.int_i, D.bool_b, D.lst_l, F15900, R15900, F59]
  refine ⟨fun _ => hpre, ?_⟩
  simp only [iiLp, iiFn, Int.toNat_zero, Nat.sub_zero, scan_fs, ixI, cL, cI, List.getD_cons_zero, List.getD_cons_succ, D.lst_l, D.int_i]
  split <;> rfl
theorem m42 : Meets Try.prog 42 S42 (R 42) (F 42) := by
  refine meets_of_vt (pre := R) (Φ := F) mixed (sgAt_all (P := Try.prog) (pre := R) (Φ := F) (l := sg42) (List.forall_mem_cons.2 ⟨Meets.at (pre := R) (Φ := F) m59, (fun _ h => nomatch h)⟩)) Try.func42 b42 n42 (loops_n 0 k42 fun k hk => by omega) e42 fun ds hf hq => ?_
  obtain ⟨x, y, rfl, hx, hy⟩ := fits2 hf.flat
  simp only [vt42, VT.ok, Nd.holds, X.outs, X.ds, X.d, Op2.ev, takeD_zero, takeD_cons, List.cons_append, List.nil_append, List.getD_cons_zero, List.getD_cons_succ, D.int_i, D.bool_b, implies_true, and_true, F59, R59, F42, iiFn, ciFn, ixI_any]
theorem loopM58_0 : LoopMeets Try.prog F (R L58_0.key) L58_0 lb58_0 := by
  refine loop_meets (pre := R) mixed (sgAt_all (P := Try.prog) (pre := R) (Φ := F) (l := sg58) ((fun _ h => nomatch h))) (loops_n 0 lk58_0 fun k hk => by omega) L58_0 (fun ρ => ((ρ.getD 3 default).int - (ρ.getD 4 default).int).toNat) le58_0 fun ρ _ hq => ?_
  obtain ⟨xs, ys, v, j, rfl, hj, hm, hl⟩ : eqPr ρ := hq
  rw [maxLen_val] at hm
  by_cases hlt : j < xs.length
  · simp (disch := omega) only [rt58_0, VT.ok, Nd.holds, X.ds, X.d, Op1.ev, Op2.ev, List.getD_cons_zero, List.getD_cons_succ, D.int_i, D.bool_b, D.lst_l, ite_b, ite_and, Int.toNat_natCast, implies_true, true_and, ↓reduceIte, dle_t, dlt_t, w64']
    show if (!sameRow2 (el xs j) (el ys j)) = true then _ else _
    cases hb : sameRow2 (el xs j) (el ys j)
    · simp only [Bool.not_false, if_true]
      refine round_exit (by omega) ?_
      show eqLp sameRow2 [.l xs, .l ys, v, .i (xs.length : Int), .i (j : Int)] = _
      simp only [eqLp, Int.toNat_natCast]
      exact scan_hit hlt (by rw [hb]; rfl)
    · simp only [Bool.not_true, Bool.false_eq_true, if_false]
      refine round_next ⟨⟨xs, ys, v, j + 1, rfl, by omega, hm, hl⟩, ?_, ?_⟩
      · show ((xs.length : Int) - ((j + 1 : Nat) : Int)).toNat < ((xs.length : Int) - (j : Int)).toNat
        omega
      · show eqLp sameRow2 [.l xs, .l ys, v, .i (xs.length : Int), .i ((j + 1 : Nat) : Int)] = eqLp sameRow2 [.l xs, .l ys, v, .i (xs.length : Int), .i (j : Int)]
        simp only [eqLp, Int.toNat_natCast]
        exact scan_next hlt (by rw [hb]; rfl)
  · have hj' : j = xs.length := by omega
    subst hj'
    simp (disch := omega) only [rt58_0, VT.ok, X.ds, X.d, Op2.ev, List.getD_cons_zero, List.getD_cons_succ, D.int_i, D.bool_b, Bool.false_eq_true, ↓reduceIte, dlt_f]
    refine round_exit (by omega) ?_
    show eqLp sameRow2 [.l xs, .l ys, v, .i (xs.length : Int), .i (xs.length : Int)] = _
    simp only [eqLp, Int.toNat_natCast]
    exact scan_end
theorem m58 : Meets Try.prog 58 S58 (R 58) (F 58) := by
  refine meets_of_vt (pre := R) (Φ := F) mixed (sgAt_all (P := Try.prog) (pre := R) (Φ := F) (l := sg58) ((fun _ h => nomatch h))) Try.func58 b58 n58 (loops_n 1 k58 fun k hk => match k, hk with | 0, _ => loop_this lf58_0 loopM58_0) e58 fun ds hf hq => ?_
  obtain ⟨x, y, rfl, hx, hy⟩ := fits2 hf.flat
  obtain ⟨xs, rfl, hm, _⟩ := wf_sl hx
  obtain ⟨ys, rfl, hm', _⟩ := wf_sl hy
  by_cases hl : ys.length = xs.length
  · have hpre : eqPr [.l xs, .l ys, .b false, .i (xs.length : Int), .i 0] := ⟨xs, ys, _, 0, rfl, by omega, hm, hl⟩
    simp (disch := omega) only [vt58, VT.ok, Nd.holds, X.outs, X.ds, X.d, Op1.ev, Op2.ev, List.cons_append, List.nil_append, List.getD_cons_zero, List.getD_cons_succ, D.int_i, D.bool_b, D.lst_l, Bool.false_eq_true, F15800, R15800, F58, ↓reduceIte, beq_t, Bool.not_true, eqFn, eqR, cL]
    refine ⟨fun _ => hpre, ?_⟩
    simp only [eqLp, Int.toNat_zero, Nat.sub_zero]
    rcases scan_two (p := fun j => !sameRow2 (el xs j) (el ys j)) xs.length with ⟨h1, j, _, _, _, h⟩ | ⟨h1, h⟩
    · simp only [h, h1]; rfl
    · simp only [h, h1]; rfl
  · simp (disch := omega) only [vt58, VT.ok, X.ds, X.d, Op1.ev, Op2.ev, List.getD_cons_zero, List.getD_cons_succ, D.int_i, D.bool_b, D.lst_l, F58, ↓reduceIte, beq_f, Bool.not_false, eqFn, eqR, cL, Bool.false_and]
theorem loopM39_0 : LoopMeets Try.prog F (R L39_0.key) L39_0 lb39_0 := by
  refine loop_meets (pre := R) mixed (sgAt_all (P := Try.prog) (pre := R) (Φ := F) (l := sg39) ((fun _ h => nomatch h))) (loops_n 0 lk39_0 fun k hk => by omega) L39_0 (fun ρ => ((ρ.getD 3 default).int - (ρ.getD 4 default).int).toNat) le39_0 fun ρ _ hq => ?_
  obtain ⟨xs, ys, v, j, rfl, hj, hm, hl⟩ : eqPr ρ := hq
  rw [maxLen_val] at hm
  by_cases hlt : j < xs.length
  · simp (disch := omega) only [rt39_0, VT.ok, Nd.holds, X.ds, X.d, Op1.ev, Op2.ev, List.getD_cons_zero, List.getD_cons_succ, D.int_i, D.bool_b, D.lst_l, ite_b, ite_and, Int.toNat_natCast, implies_true, true_and, ↓reduceIte, dle_t, dlt_t, w64']
    show if (!sameEdgeB (el xs j) (el ys j)) = true then _ else _
    cases hb : sameEdgeB (el xs j) (el ys j)
    · simp only [Bool.not_false, if_true]
      refine round_exit (by omega) ?_
      show eqLp sameEdgeB [.l xs, .l ys, v, .i (xs.length : Int), .i (j : Int)] = _
      simp only [eqLp, Int.toNat_natCast]
      exact scan_hit hlt (by rw [hb]; rfl)
    · simp only [Bool.not_true, Bool.false_eq_true, if_false]
      refine round_next ⟨⟨xs, ys, v, j + 1, rfl, by omega, hm, hl⟩, ?_, ?_⟩
      · show ((xs.length : Int) - ((j + 1 : Nat) : Int)).toNat < ((xs.length : Int) - (j : Int)).toNat
        omega
      · show eqLp sameEdgeB [.l xs, .l ys, v, .i (xs.length : Int), .i ((j + 1 : Nat) : Int)] = eqLp sameEdgeB [.l xs, .l ys, v, .i (xs.length : Int), .i (j : Int)]
        simp only [eqLp, Int.toNat_natCast]
        exact scan_next hlt (by rw [hb]; rfl)
  · have hj' : j = xs.length := by omega
    subst hj'
    simp (disch := omega) only [rt39_0, VT.ok, X.ds, X.d, Op2.ev, List.getD_cons_zero, List.getD_cons_succ, D.int_i, D.bool_b, Bool.false_eq_true, ↓reduceIte, dlt_f]
    refine round_exit (by omega) ?_
    show eqLp sameEdgeB [.l xs, .l ys, v, .i (xs.length : Int), .i (xs.length : Int)] = _
    simp only [eqLp, Int.toNat_natCast]
    exact scan_end
theorem m39 : Meets Try.prog 39 S39 (R 39) (F 39) := by
  refine meets_of_vt (pre := R) (Φ := F) mixed (sgAt_all (P := Try.prog) (pre := R) (Φ := F) (l := sg39) ((fun _ h => nomatch h))) Try.func39 b39 n39 (loops_n 1 k39 fun k hk => match k, hk with | 0, _ => loop_this lf39_0 loopM39_0) e39 fun ds hf hq => ?_
  obtain ⟨x, y, rfl, hx, hy⟩ := fits2 hf.flat
  obtain ⟨xs, rfl, hm, _⟩ := wf_sl hx
  obtain ⟨ys, rfl, hm', _⟩ := wf_sl hy
  by_cases hl : ys.length = xs.length
  · have hpre : eqPr [.l xs, .l ys, .b false, .i (xs.length : Int), .i 0] := ⟨xs, ys, _, 0, rfl, by omega, hm, hl⟩
    simp (disch := omega) only [vt39, VT.ok, Nd.holds, X.outs, X.ds, X.d, Op1.ev, Op2.ev, List.cons_append, List.nil_append, List.getD_cons_zero, List.getD_cons_succ, D.int_i, D.bool_b, D.lst_l, Bool.false_eq_true, F13900, R13900, F39, ↓reduceIte, beq_t, Bool.not_true, eqFn, eqR, cL]
    refine ⟨fun _ => hpre, ?_⟩
    simp only [eqLp, Int.toNat_zero, Nat.sub_zero]
    rcases scan_two (p := fun j => !sameEdgeB (el xs j) (el ys j)) xs.length with ⟨h1, j, _, _, _, h⟩ | ⟨h1, h⟩
    · simp only [h, h1]; rfl
    · simp only [h, h1]; rfl
  · simp (disch := omega) only [vt39, VT.ok, X.ds, X.d, Op1.ev, Op2.ev, List.getD_cons_zero, List.getD_cons_succ, D.int_i, D.bool_b, D.lst_l, F39, ↓reduceIte, beq_f, Bool.not_false, eqFn, eqR, cL, Bool.false_and]
theorem loopM40_0 : LoopMeets Try.prog F (R L40_0.key) L40_0 lb40_0 := by
  refine loop_meets (pre := R) mixed (sgAt_all (P := Try.prog) (pre := R) (Φ := F) (l := sg40) ((fun _ h => nomatch h))) (loops_n 0 lk40_0 fun k hk => by omega) L40_0 (fun ρ => ((ρ.getD 3 default).int - (ρ.getD 4 default).int).toNat) le40_0 fun ρ _ hq => ?_
  obtain ⟨xs, ys, v, j, rfl, hj, hm, hl⟩ : eqPr ρ := hq
  rw [maxLen_val] at hm
  by_cases hlt : j < xs.length
  · simp (disch := omega) only [rt40_0, VT.ok, Nd.holds, X.ds, X.d, Op1.ev, Op2.ev, List.getD_cons_zero, List.getD_cons_succ, D.int_i, D.bool_b, D.lst_l, ite_b, ite_and, Int.toNat_natCast, implies_true, true_and, ↓reduceIte, dle_t, dlt_t, w64']
    show if (!sameRow2 (el xs j) (el ys j)) = true then _ else _
    cases hb : sameRow2 (el xs j) (el ys j)
    · simp only [Bool.not_false, if_true]
      refine round_exit (by omega) ?_
      show eqLp sameRow2 [.l xs, .l ys, v, .i (xs.length : Int), .i (j : Int)] = _
      simp only [eqLp, Int.toNat_natCast]
      exact scan_hit hlt (by rw [hb]; rfl)
    · simp only [Bool.not_true, Bool.false_eq_true, if_false]
      refine round_next ⟨⟨xs, ys, v, j + 1, rfl, by omega, hm, hl⟩, ?_, ?_⟩
      · show ((xs.length : Int) - ((j + 1 : Nat) : Int)).toNat < ((xs.length : Int) - (j : Int)).toNat
        omega
      · show eqLp sameRow2 [.l xs, .l ys, v, .i (xs.length : Int), .i ((j + 1 : Nat) : Int)] = eqLp sameRow2 [.l xs, .l ys, v, .i (xs.length : Int), .i (j : Int)]
        simp only [eqLp, Int.toNat_natCast]
        exact scan_next hlt (by rw [hb]; rfl)
  · have hj' : j = xs.length := by omega
    subst hj'
    simp (disch := omega) only [rt40_0, VT.ok, X.ds, X.d, Op2.ev, List.getD_cons_zero, List.getD_cons_succ, D.int_i, D.bool_b, Bool.false_eq_true, ↓reduceIte, dlt_f]
    refine round_exit (by omega) ?_
    show eqLp sameRow2 [.l xs, .l ys, v, .i (xs.length : Int), .i (xs.length : Int)] = _
    simp only [eqLp, Int.toNat_natCast]
    exact scan_end
theorem m40 : Meets Try.prog 40 S40 (R 40) (F 40) := by
  refine meets_of_vt (pre := R) (Φ := F) mixed (sgAt_all (P := Try.prog) (pre := R) (Φ := F) (l := sg40) ((fun _ h => nomatch h))) Try.func40 b40 n40 (loops_n 1 k40 fun k hk => match k, hk with | 0, _ => loop_this lf40_0 loopM40_0) e40 fun ds hf hq => ?_
  obtain ⟨x, y, rfl, hx, hy⟩ := fits2 hf.flat
  obtain ⟨xs, rfl, hm, _⟩ := wf_sl hx
  obtain ⟨ys, rfl, hm', _⟩ := wf_sl hy
  by_cases hl : ys.length = xs.length
  · have hpre : eqPr [.l xs, .l ys, .b false, .i (xs.length : Int), .i 0] := ⟨xs, ys, _, 0, rfl, by omega, hm, hl⟩
    simp (disch := omega) only [vt40, VT.ok, Nd.holds, X.outs, X.ds, X.d, Op1.ev, Op2.ev, List.cons_append, List.nil_append, List.getD_cons_zero, List.getD_cons_succ, D.int_i, D.bool_b, D.lst_l, Bool.false_eq_true, F14000, R14000, F40, ↓reduceIte, beq_t, Bool.not_true, eqFn, eqR, cL]
    refine ⟨fun _ => hpre, ?_⟩
    simp only [eqLp, Int.toNat_zero, Nat.sub_zero]
    rcases scan_two (p := fun j => !sameRow2 (el xs j) (el ys j)) xs.length with ⟨h1, j, _, _, _, h⟩ | ⟨h1, h⟩
    · simp only [h, h1]; rfl
    · simp only [h, h1]; rfl
  · simp (disch := omega) only [vt40, VT.ok, X.ds, X.d, Op1.ev, Op2.ev, List.getD_cons_zero, List.getD_cons_succ, D.int_i, D.bool_b, D.lst_l, F40, ↓reduceIte, beq_f, Bool.not_false, eqFn, eqR, cL, Bool.false_and]
end Go.Proofs.Ytjdhicmkkmfcgaa.rv
