/-
  Candidates: paths and their bounds.
-/
import Derived.Test.YtfmglokfgdjnjaaRvCand4
namespace Go.Proofs.Ytfmglokfgdjnjaa.rv
open Go.RV

theorem dup0 (l : List Pt) : dup l 0 = false := by simp [dup]
theorem loopM40_0 : LoopMeets Try.prog F (R L40_0.key) L40_0 lb40_0 := by
  refine loop_meets (pre := R) mixed (sgAt_all (P := Try.prog) (pre := R) (Φ := F) (l := sg40) ((fun _ h => nomatch h))) (loops_n 0 lk40_0 fun k hk => by omega) L40_0 (fun ρ => (((ρ.getD 0 default).lst.length : Int) - (ρ.getD 2 default).int).toNat) le40_0 fun ρ _ hp => ?_
  obtain ⟨v, l, j, rfl, hj, hm⟩ : pr40 ρ := hp
  rw [maxLen_val] at hm
  by_cases hlt : j < l.length
  · simp (disch := omega) only [rt40_0, VT.ok, Nd.holds, X.ds, X.d, Op1.ev, Op2.ev, List.getD_cons_zero, List.getD_cons_succ, D.int_i, D.bool_b, D.lst_l, ite_b, ite_and, Int.toNat_natCast, List.length_map, implies_true, true_and, ↓reduceIte, dle_t, dlt_t, w64', pred_nat, rowP, encP]
    have hd : ((l.getD (j - 1) p0).1 == (l.getD j p0).1 && (l.getD (j - 1) p0).2 == (l.getD j p0).2) = dup l j := by
      rw [Bool.eq_iff_iff]
      simp only [dup, Bool.and_eq_true, beq_iff_eq, decide_eq_true_eq]
      constructor
      · rintro ⟨h1, h2⟩; exact ⟨by omega, h1.symm, h2.symm⟩
      · rintro ⟨_, h1, h2⟩; exact ⟨h1.symm, h2.symm⟩
    simp only [hd]
    cases hb : dup l j
    · simp only [Bool.false_eq_true, if_false]
      refine round_next ⟨⟨v, l, j + 1, rfl, by omega, hm⟩, ?_, ?_⟩
      · show (((l.map encP).length : Int) - ((j + 1 : Nat) : Int)).toNat < (((l.map encP).length : Int) - (j : Int)).toNat
        rw [List.length_map]; omega
      · show lp40 [.l (l.map encP), v, .i ((j + 1 : Nat) : Int)] = lp40 [.l (l.map encP), v, .i (j : Int)]
        simp only [lp40, map_decP, List.length_map, Int.toNat_natCast]
        exact scan_next hlt hb
    · simp only [if_true]
      refine round_exit (by omega) ?_
      show lp40 [.l (l.map encP), v, .i (j : Int)] = [.i 0, .b false, .i (j : Int)]
      simp only [lp40, map_decP, List.length_map, Int.toNat_natCast]
      exact scan_hit hlt hb
  · simp (disch := omega) only [rt40_0, VT.ok, X.ds, X.d, Op1.ev, Op2.ev, List.getD_cons_zero, List.getD_cons_succ, D.int_i, D.bool_b, D.lst_l, List.length_map, Bool.false_eq_true, ↓reduceIte, dlt_f]
    refine round_exit (by omega) ?_
    show lp40 [.l (l.map encP), v, .i (j : Int)] = _
    simp only [lp40, map_decP, List.length_map, Int.toNat_natCast]
    rw [show l.length - j = 0 by omega]
    rfl
theorem m40 : Meets Try.prog 40 S40 (R 40) (F 40) := by
  refine meets_of_vt (pre := R) (Φ := F) mixed (sgAt_all (P := Try.prog) (pre := R) (Φ := F) (l := sg40) ((fun _ h => nomatch h))) Try.func40 b40 n40 (loops_n 1 k40 fun k hk => match k, hk with | 0, _ => loop_this lf40_0 loopM40_0) e40 fun ds _ hp => ?_
  obtain ⟨l, rfl, hm⟩ : pathPre ds := hp
  have hpre : pr40 [.l (l.map encP), .b false, .i 1] := ⟨.b false, l, 1, rfl, by omega, hm⟩
  simp only [vt40, VT.ok, Nd.holds, X.outs, X.ds, X.d, Op2.ev, List.cons_append, List.nil_append, List.getD_cons_zero, List.getD_cons_succ, D.int_i, D.bool_b, F40, F14000, R14000]
  refine ⟨fun _ => hpre, ?_⟩
  simp only [lp40, disD, map_decP, List.length_map, show Int.toNat 1 = 1 from rfl]
  by_cases h0 : l.length = 0
  · have : l = [] := List.length_eq_zero_iff.1 h0
    subst this
    rfl
  · rcases any_scan (p := dup l) (n := l.length) (i := 1) (hit := fun j => [.i 0, .b false, .i (j : Int)]) (miss := fun j => [.i 1, .b false, .i (j : Int)]) (fun j hj => by rw [show j = 0 by omega]; exact dup0 l) (by omega) with ⟨h1, j, _, _, _, _, h⟩ | ⟨h1, h⟩
    · simp only [h, h1]; rfl
    · simp only [h, h1]; rfl
theorem m27 : Meets Try.prog 27 S27 (R 27) (F 27) := by
  refine meets_of_vt (pre := R) (Φ := F) mixed (sgAt_all (P := Try.prog) (pre := R) (Φ := F) (l := sg27) (List.forall_mem_cons.2 ⟨Meets.at (pre := R) (Φ := F) m40, List.forall_mem_cons.2 ⟨Meets.at (pre := R) (Φ := F) m41, (fun _ h => nomatch h)⟩⟩)) Try.func27 b27 n27 (loops_n 0 k27 fun k hk => by omega) e27 fun ds _ hp => ?_
  obtain ⟨l, rfl, hm⟩ : pathPre ds := hp
  simp only [vt27, VT.ok, Nd.holds, X.outs, X.ds, X.d, List.cons_append, List.nil_append, List.getD_cons_zero, List.getD_cons_succ, D.bool_b, F41, R41, F40, R40, F27]
  refine ⟨fun _ => ⟨l, rfl, hm⟩, fun _ => ⟨l, rfl, hm⟩, ?_⟩
  simp only [disD, ptsD, pathD, map_decP, List.length_map, path, takeD_zero, takeD_cons, List.cons_append, List.nil_append, List.getD_cons_zero, List.getD_cons_succ, D.bool_b, ite_b, ite_and, List.length_map]

theorem any_or {p q : Nat → Bool} {n : Nat} : anyN (fun j => p j || q j) n = (anyN p n || anyN q n) := by
  rw [Bool.eq_iff_iff, Bool.or_eq_true, anyN_iff, anyN_iff, anyN_iff]
  constructor
  · rintro ⟨j, h1, h2⟩
    rcases Bool.or_eq_true_iff.1 h2 with h | h
    · exact .inl ⟨j, h1, h⟩
    · exact .inr ⟨j, h1, h⟩
  · rintro (⟨j, h1, h2⟩ | ⟨j, h1, h2⟩)
    · exact ⟨j, h1, by simp [h2]⟩
    · exact ⟨j, h1, by simp [h2]⟩
theorem loopM19_0 : LoopMeets Try.prog F (R L19_0.key) L19_0 lb19_0 := by
  refine loop_meets (pre := R) mixed (sgAt_all (P := Try.prog) (pre := R) (Φ := F) (l := sg19) (List.forall_mem_cons.2 ⟨Meets.at (pre := R) (Φ := F) m34, (fun _ h => nomatch h)⟩)) (loops_n 0 lk19_0 fun k hk => by omega) L19_0 (fun ρ => (((ρ.getD 0 default).lst.length : Int) - (ρ.getD 2 default).int).toNat) le19_0 fun ρ _ hp => ?_
  obtain ⟨v, l, j, rfl, hj, hm⟩ : pr19 ρ := hp
  rw [maxLen_val] at hm
  by_cases hlt : j < l.length
  · have key : ∀ c : Bool, badDup l j = c → if c = true then RoundOk F (R L19_0.key) (fun ρ => (((ρ.getD 0 default).lst.length : Int) - (ρ.getD 2 default).int).toNat) L19_0 [.l (l.map encP), v, .i (j : Int)] [.i 0, .b false, .i (j : Int)] else RoundOk F (R L19_0.key) (fun ρ => (((ρ.getD 0 default).lst.length : Int) - (ρ.getD 2 default).int).toNat) L19_0 [.l (l.map encP), v, .i (j : Int)] [.i (-1), v, .i ((j + 1 : Nat) : Int)] := by
      intro c hb
      cases c
      · simp only [Bool.false_eq_true, if_false]
        refine round_next ⟨⟨v, l, j + 1, rfl, by omega, hm⟩, ?_, ?_⟩
        · show (((l.map encP).length : Int) - ((j + 1 : Nat) : Int)).toNat < (((l.map encP).length : Int) - (j : Int)).toNat
          rw [List.length_map]; omega
        · show lp19 [.l (l.map encP), v, .i ((j + 1 : Nat) : Int)] = lp19 [.l (l.map encP), v, .i (j : Int)]
          simp only [lp19, map_decP, List.length_map, Int.toNat_natCast]
          exact scan_next hlt hb
      · simp only [if_true]
        refine round_exit (by omega) ?_
        show lp19 [.l (l.map encP), v, .i (j : Int)] = [.i 0, .b false, .i (j : Int)]
        simp only [lp19, map_decP, List.length_map, Int.toNat_natCast]
        exact scan_hit hlt hb
    by_cases h0 : 0 < j
    · have hd : (!pv (l.getD j p0).1 (l.getD j p0).2 || ((l.getD j p0).1 == (l.getD (j - 1) p0).1 && (l.getD j p0).2 == (l.getD (j - 1) p0).2)) = badDup l j := by
        simp only [badDup, badPt, dup, h0, decide_true, Bool.true_and]
      simp (disch := omega) only [rt19_0, VT.ok, Nd.holds, X.outs, X.ds, X.d, Op1.ev, Op2.ev, takeD_zero, takeD_cons, List.cons_append, List.nil_append, List.getD_cons_zero, List.getD_cons_succ, D.int_i, D.bool_b, D.lst_l, ite_b, ite_or, ite_and, Int.toNat_natCast, List.length_map, implies_true, true_and, F34, R34, ↓reduceIte, dle_t, dlt_t, w64', pred_nat, rowP, encP, fn34_eq, Bool.and_true]
      rw [hd]
      exact key _ rfl
    · have hd : (!pv (l.getD j p0).1 (l.getD j p0).2) = badDup l j := by
        simp only [badDup, badPt, dup, h0, decide_false, Bool.false_and, Bool.or_false]
      simp (disch := omega) only [rt19_0, VT.ok, Nd.holds, X.outs, X.ds, X.d, Op1.ev, Op2.ev, takeD_zero, takeD_cons, List.cons_append, List.nil_append, List.getD_cons_zero, List.getD_cons_succ, D.int_i, D.bool_b, D.lst_l, ite_b, ite_and, Int.toNat_natCast, List.length_map, Bool.false_eq_true, implies_true, true_and, F34, R34, ↓reduceIte, dle_t, dle_f, dlt_t, dlt_f, w64', rowP, encP, fn34_eq, Bool.and_true, Bool.and_false, false_implies]
      rw [hd]
      exact key _ rfl
  · have hj : j = l.length := by omega
    subst hj
    simp (disch := omega) only [rt19_0, VT.ok, X.ds, X.d, Op1.ev, Op2.ev, List.getD_cons_zero, List.getD_cons_succ, D.int_i, D.bool_b, D.lst_l, List.length_map, Bool.false_eq_true, ↓reduceIte, dlt_f]
    refine round_exit (by omega) ?_
    show lp19 [.l (l.map encP), v, .i (l.length : Int)] = _
    simp only [lp19, map_decP, List.length_map, Int.toNat_natCast]
    exact scan_end
theorem m19 : Meets Try.prog 19 S19 (R 19) (F 19) := by
  refine meets_of_vt (pre := R) (Φ := F) mixed (sgAt_all (P := Try.prog) (pre := R) (Φ := F) (l := sg19) (List.forall_mem_cons.2 ⟨Meets.at (pre := R) (Φ := F) m34, (fun _ h => nomatch h)⟩)) Try.func19 b19 n19 (loops_n 1 k19 fun k hk => match k, hk with | 0, _ => loop_this lf19_0 loopM19_0) e19 fun ds _ hp => ?_
  obtain ⟨l, rfl, hm⟩ : pathPre ds := hp
  have hpre : pr19 [.l (l.map encP), .b false, .i 0] := ⟨.b false, l, 0, rfl, by omega, hm⟩
  have hq : path l = (decide (1 ≤ (l.length : Int)) && decide ((l.length : Int) ≤ 512) && !anyN (badDup l) l.length) := by
    have : anyN (badDup l) l.length = (anyN (badPt l) l.length || anyN (dup l) l.length) := any_or
    rw [this, path, ptsOk]
    cases anyN (badPt l) l.length <;> cases anyN (dup l) l.length <;> simp
  by_cases h1 : (l.length : Int) < 1
  · simp (disch := omega) only [vt19, VT.ok, X.ds, X.d, Op1.ev, Op2.ev, List.getD_cons_zero, D.int_i, D.bool_b, D.lst_l, List.length_map, F19, ↓reduceIte, dle_t, dle_f, dlt_t, pathD, map_decP, hq, Bool.false_and]
  · by_cases h2 : 512 < (l.length : Int)
    · simp (disch := omega) only [vt19, VT.ok, X.ds, X.d, Op1.ev, Op2.ev, List.getD_cons_zero, D.int_i, D.bool_b, D.lst_l, List.length_map, Bool.false_eq_true, F19, ↓reduceIte, dle_t, dle_f, dlt_t, dlt_f, pathD, map_decP, hq, Bool.false_and, Bool.and_false]
    · simp (disch := omega) only [vt19, VT.ok, Nd.holds, X.outs, X.ds, X.d, Op1.ev, Op2.ev, List.cons_append, List.nil_append, List.getD_cons_zero, List.getD_cons_succ, D.int_i, D.bool_b, D.lst_l, List.length_map, Bool.false_eq_true, F19, F11900, R11900, ↓reduceIte, dle_t, dlt_f, pathD, map_decP, hq, Bool.and_self]
      refine ⟨fun _ => hpre, ?_⟩
      simp only [lp19, map_decP, List.length_map, Int.toNat_zero, Nat.sub_zero]
      rcases scan_two (p := badDup l) l.length with ⟨h1, j, _, _, _, h⟩ | ⟨h1, h⟩
      · simp only [h, h1]; rfl
      · simp only [h, h1]; rfl

theorem loopM29_0 : LoopMeets Try.prog F (R L29_0.key) L29_0 lb29_0 := by
  refine loop_meets (pre := R) mixed (sgAt_all (P := Try.prog) (pre := R) (Φ := F) (l := sg29) (List.forall_mem_cons.2 ⟨Meets.at (pre := R) (Φ := F) m27, (fun _ h => nomatch h)⟩)) (loops_n 0 lk29_0 fun k hk => by omega) L29_0 (fun ρ => ((ρ.getD 1 default).int - (ρ.getD 2 default).int).toNat) le29_0 fun ρ _ hp => ?_
  obtain ⟨l, j, b, rfl, hj, hm⟩ : pr29 ρ := hp
  rw [maxLen_val] at hm
  by_cases hlt : j < l.length
  · simp (disch := omega) only [rt29_0, VT.ok, Nd.holds, X.ds, X.d, Op1.ev, Op2.ev, List.getD_cons_zero, List.getD_cons_succ, D.int_i, D.bool_b, D.lst_l, imin, imax, Int.toNat_natCast, List.length_map, implies_true, true_and, ↓reduceIte, dle_t, dlt_t, w64', rowP, encP]
    refine round_next ⟨⟨l, j + 1, grow b (l.getD j p0), rfl, by omega, hm⟩, ?_, ?_⟩
    · show ((l.length : Int) - ((j + 1 : Nat) : Int)).toNat < ((l.length : Int) - (j : Int)).toNat
      omega
    · show lp29 [.l (l.map encP), .i (l.length : Int), .i ((j + 1 : Nat) : Int), .i (grow b (l.getD j p0)).1, .i (grow b (l.getD j p0)).2.1, .i (grow b (l.getD j p0)).2.2.1, .i (grow b (l.getD j p0)).2.2.2] = lp29 [.l (l.map encP), .i (l.length : Int), .i (j : Int), .i b.1, .i b.2.1, .i b.2.2.1, .i b.2.2.2]
      simp only [lp29, map_decP, Int.toNat_natCast, growN]
      rw [fold_next (i := j) hlt]
  · have hj : j = l.length := by omega
    subst hj
    simp (disch := omega) only [rt29_0, VT.ok, X.ds, X.d, Op2.ev, List.getD_cons_zero, List.getD_cons_succ, D.int_i, D.bool_b, Bool.false_eq_true, ↓reduceIte, dlt_f]
    refine round_exit (by omega) ?_
    show lp29 [.l (l.map encP), .i (l.length : Int), .i (l.length : Int), .i b.1, .i b.2.1, .i b.2.2.1, .i b.2.2.2] = _
    simp only [lp29, map_decP, Int.toNat_natCast, growN, fold_end]
    rfl
theorem path_len {l : List Pt} (h : path l = true) : 0 < l.length := by have := (path_iff.1 h).1; omega
theorem m29 : Meets Try.prog 29 S29 (R 29) (F 29) := by
  refine meets_of_vt (pre := R) (Φ := F) mixed (sgAt_all (P := Try.prog) (pre := R) (Φ := F) (l := sg29) (List.forall_mem_cons.2 ⟨Meets.at (pre := R) (Φ := F) m27, (fun _ h => nomatch h)⟩)) Try.func29 b29 n29 (loops_n 1 k29 fun k hk => match k, hk with | 0, _ => loop_this lf29_0 loopM29_0) e29 fun ds _ hp => ?_
  obtain ⟨l, rfl, hm⟩ : pathPre ds := hp
  have hpre : pr29 [.l (l.map encP), .i (l.length : Int), .i 0, .i (l.getD 0 p0).1, .i (l.getD 0 p0).2, .i (l.getD 0 p0).1, .i (l.getD 0 p0).2] := ⟨l, 0, box0 l, rfl, by omega, hm⟩
  simp only [vt29, VT.ok, Nd.holds, X.outs, X.ds, X.d, Op1.ev, Op2.ev, takeD_zero, takeD_cons, List.cons_append, List.nil_append, List.getD_cons_zero, List.getD_cons_succ, D.int_i, D.bool_b, D.lst_l, List.length_map, F27, R27, F29, F12900, R12900, pathD, map_decP, bndD, bnd]
  refine ⟨fun _ => ⟨l, rfl, hm⟩, ?_⟩
  cases hq : path l
  · rfl
  · have h0 := path_len hq
    simp (disch := omega) only [List.getD_cons_zero, List.getD_cons_succ, Bool.false_eq_true, implies_true, true_and, ↓reduceIte, dlt_t, rowP, encP, Bool.not_true, Int.toNat_zero]
    refine ⟨fun _ => hpre, ?_⟩
    simp only [lp29, map_decP, Int.toNat_zero]
    rfl
theorem loopM20_0 : LoopMeets Try.prog F (R L20_0.key) L20_0 lb20_0 := by
  refine loop_meets (pre := R) mixed (sgAt_all (P := Try.prog) (pre := R) (Φ := F) (l := sg20) (List.forall_mem_cons.2 ⟨Meets.at (pre := R) (Φ := F) m19, (fun _ h => nomatch h)⟩)) (loops_n 0 lk20_0 fun k hk => by omega) L20_0 (fun ρ => (((ρ.getD 0 default).lst.length : Int) - (ρ.getD 1 default).int).toNat) le20_0 fun ρ _ hp => ?_
  obtain ⟨l, j, b, rfl, hj, hm⟩ : pr20 ρ := hp
  rw [maxLen_val] at hm
  by_cases hlt : j < l.length
  · simp (disch := omega) only [rt20_0, VT.ok, Nd.holds, X.ds, X.d, Op1.ev, Op2.ev, List.getD_cons_zero, List.getD_cons_succ, D.int_i, D.bool_b, D.lst_l, imin, imax, Int.toNat_natCast, List.length_map, implies_true, true_and, ↓reduceIte, dle_t, dlt_t, w64', rowP, encP]
    refine round_next ⟨⟨l, j + 1, grow b (l.getD j p0), rfl, by omega, hm⟩, ?_, ?_⟩
    · show (((l.map encP).length : Int) - ((j + 1 : Nat) : Int)).toNat < (((l.map encP).length : Int) - (j : Int)).toNat
      rw [List.length_map]; omega
    · show lp20 [.l (l.map encP), .i ((j + 1 : Nat) : Int), .i (grow b (l.getD j p0)).1, .i (grow b (l.getD j p0)).2.1, .i (grow b (l.getD j p0)).2.2.1, .i (grow b (l.getD j p0)).2.2.2] = lp20 [.l (l.map encP), .i (j : Int), .i b.1, .i b.2.1, .i b.2.2.1, .i b.2.2.2]
      simp only [lp20, map_decP, Int.toNat_natCast, growN]
      rw [fold_next (i := j) hlt]
  · have hj : j = l.length := by omega
    subst hj
    simp (disch := omega) only [rt20_0, VT.ok, X.ds, X.d, Op1.ev, Op2.ev, List.getD_cons_zero, List.getD_cons_succ, D.int_i, D.bool_b, D.lst_l, List.length_map, Bool.false_eq_true, ↓reduceIte, dlt_f]
    refine round_exit (by omega) ?_
    show lp20 [.l (l.map encP), .i (l.length : Int), .i b.1, .i b.2.1, .i b.2.2.1, .i b.2.2.2] = _
    simp only [lp20, map_decP, List.length_map, Int.toNat_natCast, growN, fold_end]
    rfl
theorem m20 : Meets Try.prog 20 S20 (R 20) (F 20) := by
  refine meets_of_vt (pre := R) (Φ := F) mixed (sgAt_all (P := Try.prog) (pre := R) (Φ := F) (l := sg20) (List.forall_mem_cons.2 ⟨Meets.at (pre := R) (Φ := F) m19, (fun _ h => nomatch h)⟩)) Try.func20 b20 n20 (loops_n 1 k20 fun k hk => match k, hk with | 0, _ => loop_this lf20_0 loopM20_0) e20 fun ds _ hp => ?_
  obtain ⟨l, rfl, hm⟩ : pathPre ds := hp
  simp only [vt20, VT.ok, Nd.holds, X.outs, X.ds, X.d, Op1.ev, Op2.ev, takeD_zero, takeD_cons, List.cons_append, List.nil_append, List.getD_cons_zero, List.getD_cons_succ, D.int_i, D.bool_b, D.lst_l, List.length_map, F19, R19, F20, F12000, R12000, pathD, map_decP, bndD, bnd]
  refine ⟨fun _ => ⟨l, rfl, hm⟩, ?_⟩
  cases hq : path l
  · rfl
  · have h0 := path_len hq
    have hpre : pr20 [.l (l.map encP), .i 1, .i (l.getD 0 p0).1, .i (l.getD 0 p0).2, .i (l.getD 0 p0).1, .i (l.getD 0 p0).2] := ⟨l, 1, box0 l, rfl, by omega, hm⟩
    simp (disch := omega) only [List.getD_cons_zero, List.getD_cons_succ, Bool.false_eq_true, implies_true, true_and, ↓reduceIte, dlt_t, rowP, encP, Bool.not_true, Int.toNat_zero]
    refine ⟨fun _ => hpre, ?_⟩
    simp only [lp20, map_decP, show Int.toNat 1 = 1 from rfl]
    rw [show growN l 0 (box0 l) = growN l 1 (box0 l) from (bnd1 l h0).symm]
    rfl
end Go.Proofs.Ytfmglokfgdjnjaa.rv
