/-
  Candidates: the reference's boxes along a path; equal lists; free boxes.
-/
import Derived.Test.YtfmglokfgdjnjaaRvCand7
namespace Go.Proofs.Ytfmglokfgdjnjaa.rv
open Go.RV

theorem loopM14_1 : LoopMeets Try.prog F (R L14_1.key) L14_1 lb14_1 := by
  refine loop_meets (pre := R) mixed (sgAt_all (P := Try.prog) (pre := R) (Φ := F) (l := sg14) (List.forall_mem_cons.2 ⟨Meets.at (pre := R) (Φ := F) m19, List.forall_mem_cons.2 ⟨Meets.at (pre := R) (Φ := F) m25, List.forall_mem_cons.2 ⟨Meets.at (pre := R) (Φ := F) m20, List.forall_mem_cons.2 ⟨Meets.at (pre := R) (Φ := F) m26, List.forall_mem_cons.2 ⟨Meets.at (pre := R) (Φ := F) m18, (fun _ h => nomatch h)⟩⟩⟩⟩⟩)) (loops_n 0 lk14_1 fun k hk => by omega) L14_1 (fun ρ => (12 - (ρ.getD 3 default).int).toNat) le14_1 fun ρ _ hp => ?_
  obtain ⟨w, h, g, k, b, acc, rfl, hv, hs, hk, ha⟩ : pr14i ρ := hp
  by_cases hlt : k < 8
  · simp (disch := omega) only [rt14_1, VT.ok, Nd.holds, X.outs, X.ds, X.d, Op1.ev, Op2.ev, takeD_zero, takeD_cons, List.cons_append, List.nil_append, List.getD_cons_zero, List.getD_cons_succ, D.int_i, D.bool_b, D.lst_l, implies_true, true_and, F18, R18, F26, R26, ↓reduceIte, dlt_t, w64', fn26_eq hv hs (k := k) (by omega), encQ, fn18_eq]
    have e2 : bv (place b w h g k).1 (place b w h g k).2.1 (place b w h g k).2.2.1 (place b w h g k).2.2.2 = vq (place b w h g k) := rfl
    rw [e2]
    have hN : ∀ acc', acc' = acc ++ putf (place b w h g k) → RoundOk F (R L14_1.key) (fun ρ => (12 - (ρ.getD 3 default).int).toNat) L14_1 [.i w, .i h, .i g, .i k, .l (acc.map encQ), .i b.1, .i b.2.1, .i b.2.2.1, .i b.2.2.2] [.i (-1), .i (k + 4), .l (acc'.map encQ)] := by
      rintro acc' rfl
      have := put_len (acc := acc) (q := place b w h g k)
      refine round_next ⟨⟨w, h, g, k + 4, b, _, rfl, hv, hs, by omega, by omega⟩, ?_, ?_⟩
      · show (12 - (k + 4)).toNat < (12 - k).toNat
        omega
      · show lp14i [.i w, .i h, .i g, .i (k + 4), .l ((acc ++ putf (place b w h g k)).map encQ), .i b.1, .i b.2.1, .i b.2.2.1, .i b.2.2.2] = lp14i [.i w, .i h, .i g, .i k, .l (acc.map encQ), .i b.1, .i b.2.1, .i b.2.2.1, .i b.2.2.2]
        simp only [lp14i, map_decQ, two14]
        by_cases h4 : k < 4
        · rw [if_neg (by omega), if_pos (by omega), if_pos h4, if_neg (by omega), if_pos (by omega), if_pos h4, List.append_assoc, show k + 4 + 4 = k + 8 by omega]
        · rw [if_neg (by omega), if_neg (by omega), if_neg h4, if_pos hlt, if_neg (by omega), if_neg (by omega), if_neg h4, if_pos hlt, List.append_nil]
    cases hq : vq (place b w h g k)
    · simp only [Bool.false_eq_true, if_false]
      exact hN acc (by rw [putf, hq]; simp)
    · simp only [if_true, encQ_eq, cat_map]
      refine ⟨by simp; omega, hN _ (by rw [putf, hq]; simp)⟩
  · simp (disch := omega) only [rt14_1, VT.ok, X.ds, X.d, Op2.ev, List.getD_cons_zero, List.getD_cons_succ, D.int_i, D.bool_b, Bool.false_eq_true, ↓reduceIte, dlt_f]
    refine round_exit (by omega) ?_
    show lp14i [.i w, .i h, .i g, .i k, .l (acc.map encQ), .i b.1, .i b.2.1, .i b.2.2.1, .i b.2.2.2] = _
    simp only [lp14i, map_decQ, two14]
    rw [if_neg (by omega), if_neg hlt, if_neg (by omega), if_neg hlt, List.append_nil]
theorem loopM14_0 : LoopMeets Try.prog F (R L14_0.key) L14_0 lb14_0 := by
  refine loop_meets (pre := R) mixed (sgAt_all (P := Try.prog) (pre := R) (Φ := F) (l := sg14) (List.forall_mem_cons.2 ⟨Meets.at (pre := R) (Φ := F) m19, List.forall_mem_cons.2 ⟨Meets.at (pre := R) (Φ := F) m25, List.forall_mem_cons.2 ⟨Meets.at (pre := R) (Φ := F) m20, List.forall_mem_cons.2 ⟨Meets.at (pre := R) (Φ := F) m26, List.forall_mem_cons.2 ⟨Meets.at (pre := R) (Φ := F) m18, (fun _ h => nomatch h)⟩⟩⟩⟩⟩)) (loops_n 1 lk14_0 fun k hk => match k, hk with | 0, _ => by rw [li14_0_0]; exact loop_this lf14_1 loopM14_1) L14_0 (fun ρ => (((ρ.getD 0 default).lst.length : Int) - (ρ.getD 4 default).int).toNat) le14_0 fun ρ _ hp => ?_
  obtain ⟨l, w, h, g, i, acc, rfl, hq, hs, hi, ha⟩ : pr13 ρ := hp
  have h5 := (path_iff.1 hq).1
  by_cases hlt : i < l.length
  · have hsub : ((l.map encP).take (i + 1)).drop (i - 1) = [l.getD (i - 1) p0, l.getD i p0].map encP := by
      rw [← List.map_take, ← List.map_drop, two (by omega) hlt]
    have hpp : pathPre [.l ([l.getD (i - 1) p0, l.getD i p0].map encP)] := ⟨_, rfl, by show 2 ≤ maxLen; rw [maxLen_val]; omega⟩
    have hbd : bndD [.l ([l.getD (i - 1) p0, l.getD i p0].map encP)] = encQ (segN l i) := by
      show encQ (bnd (([l.getD (i - 1) p0, l.getD i p0].map encP).map decP)) = _
      rw [map_decP, bnd_two hq (by omega) hlt]
    have hv := seg_ok hq (by omega : 0 < i) hlt
    have hvi := vq_iff.1 hv
    have hN : ∀ acc', acc' = acc ++ pair (segN l i) w h g → RoundOk F (R L14_0.key) (fun ρ => (((ρ.getD 0 default).lst.length : Int) - (ρ.getD 4 default).int).toNat) L14_0 [.l (l.map encP), .i w, .i h, .i g, .i (i : Int), .l (acc.map encQ)] [.i (-1), .i ((i + 1 : Nat) : Int), .l (acc'.map encQ)] := by
      rintro acc' rfl
      refine round_next ⟨⟨l, w, h, g, i + 1, _, rfl, hq, hs, by omega, by rw [List.length_append]; have := pair_len (segN l i) w h g; omega⟩, ?_, ?_⟩
      · show (((l.map encP).length : Int) - ((i + 1 : Nat) : Int)).toNat < (((l.map encP).length : Int) - (i : Int)).toNat
        rw [List.length_map]; omega
      · show lp13 [.l (l.map encP), .i w, .i h, .i g, .i ((i + 1 : Nat) : Int), .l ((acc ++ pair (segN l i) w h g).map encQ)] = lp13 [.l (l.map encP), .i w, .i h, .i g, .i (i : Int), .l (acc.map encQ)]
        simp only [lp13, map_decQ, map_decP, List.length_map, Int.toNat_natCast]
        rw [coll_next (f := fun i => pair (segN l i) w h g) hlt acc]
    simp (disch := omega) only [rt14_0, VT.ok, Nd.holds, X.outs, X.ds, X.d, Op1.ev, Op2.ev, takeD_zero, takeD_cons, List.cons_append, List.nil_append, List.getD_cons_zero, List.getD_cons_succ, D.int_i, D.bool_b, D.lst_l, List.length_map, implies_true, true_and, F11400, R11400, F20, R20, ↓reduceIte, dle_t, dlt_t, w64', pred_nat, suc_nat, hsub, hbd, encQ]
    refine ⟨fun _ => hpp, ?_⟩
    have hpr : ∀ k : Int, (0 ≤ k ∧ k ≤ 11) → pr14i [.i w, .i h, .i g, .i k, .l (acc.map encQ), .i (segN l i).1, .i (segN l i).2.1, .i (segN l i).2.2.1, .i (segN l i).2.2.2] := fun k h0 => ⟨w, h, g, k, segN l i, acc, rfl, hv, hs, h0, by omega⟩
    by_cases hw : (segN l i).2.2.1 - (segN l i).1 < (segN l i).2.2.2 - (segN l i).2.1
    · have hf : first (segN l i) = 2 := by rw [first, if_pos (by omega)]
      simp (disch := omega) only [↓reduceIte, dlt_t]
      refine ⟨fun _ => hpr 2 (by omega), ?_⟩
      simp only [lp14i, map_decQ]
      exact hN _ (by rw [pair, hf, two14, if_pos (by omega)])
    · have hf : first (segN l i) = 0 := by rw [first, if_neg (by omega)]
      simp (disch := omega) only [Bool.false_eq_true, ↓reduceIte, dlt_f]
      refine ⟨fun _ => hpr 0 (by omega), ?_⟩
      simp only [lp14i, map_decQ]
      exact hN _ (by rw [pair, hf, two14, if_pos (by omega)])
  · have hj : i = l.length := by omega
    subst hj
    simp (disch := omega) only [rt14_0, VT.ok, X.ds, X.d, Op1.ev, Op2.ev, List.getD_cons_zero, List.getD_cons_succ, D.int_i, D.bool_b, D.lst_l, List.length_map, Bool.false_eq_true, ↓reduceIte, dlt_f]
    refine round_exit (by omega) ?_
    show lp13 [.l (l.map encP), .i w, .i h, .i g, .i (l.length : Int), .l (acc.map encQ)] = _
    simp only [lp13, map_decQ, List.length_map, Int.toNat_natCast, coll_end]
theorem m14 : Meets Try.prog 14 S14 (R 14) (F 14) := by
  refine meets_of_vt (pre := R) (Φ := F) mixed (sgAt_all (P := Try.prog) (pre := R) (Φ := F) (l := sg14) (List.forall_mem_cons.2 ⟨Meets.at (pre := R) (Φ := F) m19, List.forall_mem_cons.2 ⟨Meets.at (pre := R) (Φ := F) m25, List.forall_mem_cons.2 ⟨Meets.at (pre := R) (Φ := F) m20, List.forall_mem_cons.2 ⟨Meets.at (pre := R) (Φ := F) m26, List.forall_mem_cons.2 ⟨Meets.at (pre := R) (Φ := F) m18, (fun _ h => nomatch h)⟩⟩⟩⟩⟩)) Try.func14 b14 n14 (loops_n 2 k14 fun k hk => match k, hk with | 0, _ => loop_this lf14_0 loopM14_0 | 1, _ => loop_this lf14_1 loopM14_1) e14 fun ds _ hp => ?_
  obtain ⟨l, w, h, g, rfl, hm⟩ : alongPre ds := hp
  simp only [vt14, VT.ok, Nd.holds, X.outs, X.ds, X.d, Op1.ev, takeD_zero, takeD_cons, List.cons_append, List.nil_append, List.getD_cons_zero, List.getD_cons_succ, D.bool_b, ite_b, ite_or, implies_true, true_and, F14, F11401, R11401, F25, R25, F19, R19, pathD, map_decP, fn25_eq, alongD, along]
  refine ⟨fun _ => ⟨l, rfl, hm⟩, ?_⟩
  cases hv : path l
  · rfl
  · cases hs : sz3 w h g
    · rfl
    · have := (path_iff.1 hv).1
      simp only [Bool.not_true, Bool.or_false, Bool.false_eq_true, if_false, Bool.and_self, if_true]
      refine ⟨fun _ => ⟨l, w, h, g, 1, [], rfl, hv, hs, by omega, by simp⟩, ?_⟩
      simp only [lp13, List.map_nil, List.nil_append, map_decP, List.length_map]
      rfl

/-! ### equal lists -/
theorem loopM9_0 : LoopMeets Try.prog F (R L9_0.key) L9_0 lb9_0 := by
  refine loop_meets (pre := R) mixed (sgAt_all (P := Try.prog) (pre := R) (Φ := F) (l := sg9) ((fun _ h => nomatch h))) (loops_n 0 lk9_0 fun k hk => by omega) L9_0 (fun ρ => (((ρ.getD 0 default).lst.length : Int) - (ρ.getD 3 default).int).toNat) le9_0 fun ρ _ hp => ?_
  obtain ⟨l, v, j, rfl, hj, hm⟩ : pr9 ρ := hp
  rw [maxLen_val] at hm
  by_cases hlt : j < l.length
  · simp (disch := omega) only [rt9_0, VT.ok, Nd.holds, X.ds, X.d, Op1.ev, Op2.ev, List.getD_cons_zero, List.getD_cons_succ, D.int_i, D.bool_b, D.lst_l, Int.toNat_natCast, List.length_map, Bool.false_eq_true, implies_true, true_and, ↓reduceIte, dle_t, dlt_t, beq_t, w64', rowQ, encQ, Bool.not_true]
    refine round_next ⟨⟨l, v, j + 1, rfl, by omega, hm⟩, ?_, rfl⟩
    show (((l.map encQ).length : Int) - ((j + 1 : Nat) : Int)).toNat < (((l.map encQ).length : Int) - (j : Int)).toNat
    rw [List.length_map]; omega
  · have hj : j = l.length := by omega
    subst hj
    simp (disch := omega) only [rt9_0, VT.ok, X.ds, X.d, Op1.ev, Op2.ev, List.getD_cons_zero, List.getD_cons_succ, D.int_i, D.bool_b, D.lst_l, List.length_map, Bool.false_eq_true, ↓reduceIte, dlt_f]
    refine round_exit (by omega) ?_
    show lp9 [.l (l.map encQ), .l (l.map encQ), v, .i (l.length : Int)] = _
    simp only [lp9, List.length_map]
theorem m9 : Meets Try.prog 9 S9 (R 9) (F 9) := by
  refine meets_of_vt (pre := R) (Φ := F) mixed (sgAt_all (P := Try.prog) (pre := R) (Φ := F) (l := sg9) ((fun _ h => nomatch h))) Try.func9 b9 n9 (loops_n 1 k9 fun k hk => match k, hk with | 0, _ => loop_this lf9_0 loopM9_0) e9 fun ds _ hp => ?_
  obtain ⟨l, rfl, hm⟩ : sameQ ds := hp
  simp (disch := omega) only [vt9, VT.ok, Nd.holds, X.outs, X.ds, X.d, Op1.ev, Op2.ev, List.cons_append, List.nil_append, List.getD_cons_zero, List.getD_cons_succ, D.int_i, D.bool_b, D.lst_l, List.length_map, Bool.false_eq_true, F9, F10900, R10900, ↓reduceIte, beq_t, Bool.not_true]
  refine ⟨fun _ => ⟨l, .b false, 0, rfl, by omega, hm⟩, ?_⟩
  rfl
theorem loopM15_0 : LoopMeets Try.prog F (R L15_0.key) L15_0 lb15_0 := by
  refine loop_meets (pre := R) mixed (sgAt_all (P := Try.prog) (pre := R) (Φ := F) (l := sg15) ((fun _ h => nomatch h))) (loops_n 0 lk15_0 fun k hk => by omega) L15_0 (fun ρ => (((ρ.getD 0 default).lst.length : Int) - (ρ.getD 3 default).int).toNat) le15_0 fun ρ _ hp => ?_
  obtain ⟨l, v, j, rfl, hj, hm⟩ : pr15 ρ := hp
  rw [maxLen_val] at hm
  by_cases hlt : j < l.length
  · simp (disch := omega) only [rt15_0, VT.ok, Nd.holds, X.ds, X.d, Op1.ev, Op2.ev, List.getD_cons_zero, List.getD_cons_succ, D.int_i, D.bool_b, D.lst_l, Int.toNat_natCast, List.length_map, Bool.false_eq_true, implies_true, true_and, ↓reduceIte, dle_t, dlt_t, beq_t, w64', rowI, encI, Bool.not_true]
    refine round_next ⟨⟨l, v, j + 1, rfl, by omega, hm⟩, ?_, rfl⟩
    show (((l.map encI).length : Int) - ((j + 1 : Nat) : Int)).toNat < (((l.map encI).length : Int) - (j : Int)).toNat
    rw [List.length_map]; omega
  · have hj : j = l.length := by omega
    subst hj
    simp (disch := omega) only [rt15_0, VT.ok, X.ds, X.d, Op1.ev, Op2.ev, List.getD_cons_zero, List.getD_cons_succ, D.int_i, D.bool_b, D.lst_l, List.length_map, Bool.false_eq_true, ↓reduceIte, dlt_f]
    refine round_exit (by omega) ?_
    show lp9 [.l (l.map encI), .l (l.map encI), v, .i (l.length : Int)] = _
    simp only [lp9, List.length_map]
theorem m15 : Meets Try.prog 15 S15 (R 15) (F 15) := by
  refine meets_of_vt (pre := R) (Φ := F) mixed (sgAt_all (P := Try.prog) (pre := R) (Φ := F) (l := sg15) ((fun _ h => nomatch h))) Try.func15 b15 n15 (loops_n 1 k15 fun k hk => match k, hk with | 0, _ => loop_this lf15_0 loopM15_0) e15 fun ds _ hp => ?_
  obtain ⟨l, rfl, hm⟩ : sameI ds := hp
  simp (disch := omega) only [vt15, VT.ok, Nd.holds, X.outs, X.ds, X.d, Op1.ev, Op2.ev, List.cons_append, List.nil_append, List.getD_cons_zero, List.getD_cons_succ, D.int_i, D.bool_b, D.lst_l, List.length_map, Bool.false_eq_true, F15, F11500, R11500, ↓reduceIte, beq_t, Bool.not_true]
  refine ⟨fun _ => ⟨l, .b false, 0, rfl, by omega, hm⟩, ?_⟩
  rfl

/-! ### free boxes -/
theorem loopM16_0 : LoopMeets Try.prog F (R L16_0.key) L16_0 lb16_0 := by
  refine loop_meets (pre := R) mixed (sgAt_all (P := Try.prog) (pre := R) (Φ := F) (l := sg16) (List.forall_mem_cons.2 ⟨Meets.at (pre := R) (Φ := F) m21, List.forall_mem_cons.2 ⟨Meets.at (pre := R) (Φ := F) m30, (fun _ h => nomatch h)⟩⟩)) (loops_n 0 lk16_0 fun k hk => by omega) L16_0 (fun ρ => ((ρ.getD 2 default).int - (ρ.getD 3 default).int).toNat) le16_0 fun ρ _ hp => ?_
  obtain ⟨l, obs, j, acc, rfl, hj, h1, h2, ha⟩ : pr16 ρ := hp
  by_cases hlt : j < l.length
  · have hN : ∀ acc', acc' = acc ++ freeF l obs j → RoundOk F (R L16_0.key) (fun ρ => ((ρ.getD 2 default).int - (ρ.getD 3 default).int).toNat) L16_0 [.l (obs.map encQ), .l (l.map encQ), .i (l.length : Int), .i (j : Int), .l (acc.map encI)] [.i (-1), .i ((j + 1 : Nat) : Int), .l (acc'.map encI)] := by
      rintro acc' rfl
      have hl : (acc ++ freeF l obs j).length ≤ j + 1 := by
        rw [List.length_append, freeF]; split <;> simp <;> omega
      refine round_next ⟨⟨l, obs, j + 1, _, rfl, by omega, h1, h2, hl⟩, ?_, ?_⟩
      · show ((l.length : Int) - ((j + 1 : Nat) : Int)).toNat < ((l.length : Int) - (j : Int)).toNat
        omega
      · show lp16 [.l (obs.map encQ), .l (l.map encQ), .i (l.length : Int), .i ((j + 1 : Nat) : Int), .l ((acc ++ freeF l obs j).map encI)] = lp16 [.l (obs.map encQ), .l (l.map encQ), .i (l.length : Int), .i (j : Int), .l (acc.map encI)]
        simp only [lp16, map_decQ, map_decI, List.length_map, Int.toNat_natCast]
        rw [coll_next (f := freeF l obs) hlt acc]
    have hpre : clQ [.l (obs.map encQ), .c 31 ctQ [.p (encQ (l.getD j q0))]] := ⟨l.getD j q0, obs, rfl, by rw [maxLen_val]; omega⟩
    simp only [encQ, ctQ] at hpre
    have hc : cf30 [.l (obs.map encQ), .c 31 ctQ [.p (encQ (l.getD j q0))]] = [.b (anyN (hitAt l obs j) obs.length)] := by
      simp only [cf30, map_decQ, List.length_map]; rfl
    simp only [encQ, ctQ] at hc
    simp (disch := omega) only [rt16_0, VT.ok, Nd.holds, X.outs, X.ds, X.d, Op1.ev, Op2.ev, takeD_zero, takeD_cons, List.cons_append, List.nil_append, List.getD_cons_zero, List.getD_cons_succ, D.int_i, D.bool_b, D.lst_l, ite_b, ite_and, Int.toNat_natCast, List.length_map, implies_true, true_and, F21, R21, F30, R30, ↓reduceIte, dle_t, dlt_t, w64', rowQ, encQ, fn21_eq, hc]
    refine ⟨fun _ => hpre, ?_⟩
    have e : (bv (l.getD j q0).1 (l.getD j q0).2.1 (l.getD j q0).2.2.1 (l.getD j q0).2.2.2 && !anyN (hitAt l obs j) obs.length) = freeAt l obs j := rfl
    rw [e]
    cases hq : freeAt l obs j
    · simp only [Bool.false_eq_true, if_false]
      exact hN acc (by rw [freeF, hq]; simp)
    · simp only [if_true, encI_eq, cat_map]
      refine ⟨by simp; omega, hN _ (by rw [freeF, hq]; simp)⟩
  · have hj : j = l.length := by omega
    subst hj
    simp (disch := omega) only [rt16_0, VT.ok, X.ds, X.d, Op2.ev, List.getD_cons_zero, List.getD_cons_succ, D.int_i, D.bool_b, Bool.false_eq_true, ↓reduceIte, dlt_f]
    refine round_exit (by omega) ?_
    show lp16 [.l (obs.map encQ), .l (l.map encQ), .i (l.length : Int), .i (l.length : Int), .l (acc.map encI)] = _
    simp only [lp16, map_decQ, map_decI, List.length_map, Int.toNat_natCast, coll_end]
theorem m16 : Meets Try.prog 16 S16 (R 16) (F 16) := by
  refine meets_of_vt (pre := R) (Φ := F) mixed (sgAt_all (P := Try.prog) (pre := R) (Φ := F) (l := sg16) (List.forall_mem_cons.2 ⟨Meets.at (pre := R) (Φ := F) m21, List.forall_mem_cons.2 ⟨Meets.at (pre := R) (Φ := F) m30, (fun _ h => nomatch h)⟩⟩)) Try.func16 b16 n16 (loops_n 1 k16 fun k hk => match k, hk with | 0, _ => loop_this lf16_0 loopM16_0) e16 fun ds _ hp => ?_
  obtain ⟨l, obs, rfl, h1, h2⟩ : freePre ds := hp
  simp only [vt16, VT.ok, Nd.holds, X.outs, X.ds, X.d, Op1.ev, List.cons_append, List.nil_append, List.getD_cons_zero, List.getD_cons_succ, D.bool_b, D.lst_l, List.length_map, F16, F11600, R11600, freeD, map_decQ]
  refine ⟨fun _ => ⟨l, obs, 0, [], rfl, by omega, h1, h2, by simp⟩, ?_⟩
  simp only [lp16, List.map_nil, List.nil_append, map_decQ, List.length_map]
  rfl
theorem fold_and {p : Nat → Bool} : ∀ (m n i : Nat) (f : Bool), m = n - i → i ≤ n → foldN (fun k f => f && !p k) n i f = (f && !(((List.range n).drop i).any p))
  | 0, n, i, f, hm, hi => by
    have : i = n := by omega
    subst this
    have e : (List.range i).drop i = [] := List.drop_of_length_le (by simp)
    rw [fold_end, e]; simp
  | m + 1, n, i, f, hm, hi => by
    rw [fold_next (by omega), fold_and m n (i + 1) _ (by omega) (by omega), range_drop (by omega : i < n), List.any_cons]
    cases f <;> cases p i <;> simp
theorem clear_all (l obs : List Bx) (i : Nat) (f : Bool) : clear l obs i 0 f = (f && !anyN (hitAt l obs i) obs.length) := by
  rw [clear, fold_and obs.length obs.length 0 f rfl (by omega)]; rfl
theorem loopM17_1 : LoopMeets Try.prog F (R L17_1.key) L17_1 lb17_1 := by
  refine loop_meets (pre := R) mixed (sgAt_all (P := Try.prog) (pre := R) (Φ := F) (l := sg17) (List.forall_mem_cons.2 ⟨Meets.at (pre := R) (Φ := F) m18, List.forall_mem_cons.2 ⟨Meets.at (pre := R) (Φ := F) m33, (fun _ h => nomatch h)⟩⟩)) (loops_n 0 lk17_1 fun k hk => by omega) L17_1 (fun ρ => (((ρ.getD 1 default).lst.length : Int) - (ρ.getD 4 default).int).toNat) le17_1 fun ρ _ hp => ?_
  obtain ⟨l, obs, i, k, f, rfl, hi, hk, h1, h2⟩ : pr17i ρ := hp
  by_cases hlt : k < obs.length
  · simp (disch := omega) only [rt17_1, VT.ok, Nd.holds, X.outs, X.ds, X.d, Op1.ev, Op2.ev, takeD_zero, takeD_cons, List.cons_append, List.nil_append, List.getD_cons_zero, List.getD_cons_succ, D.int_i, D.bool_b, D.lst_l, ite_b, ite_and, Int.toNat_natCast, List.length_map, implies_true, true_and, F33, R33, ↓reduceIte, dle_t, dlt_t, w64', rowQ, encQ, fn33_eq]
    have e : ovl (l.getD i q0) (obs.getD k q0) = hitAt l obs i k := rfl
    rw [e]
    refine round_next ⟨⟨l, obs, i, k + 1, (f && !hitAt l obs i k), rfl, hi, by omega, h1, h2⟩, ?_, ?_⟩
    · show (((obs.map encQ).length : Int) - ((k + 1 : Nat) : Int)).toNat < (((obs.map encQ).length : Int) - (k : Int)).toNat
      rw [List.length_map]; omega
    · show lp17i [.l (l.map encQ), .l (obs.map encQ), .i (i : Int), .b (f && !hitAt l obs i k), .i ((k + 1 : Nat) : Int)] = lp17i [.l (l.map encQ), .l (obs.map encQ), .i (i : Int), .b f, .i (k : Int)]
      simp only [lp17i, map_decQ, Int.toNat_natCast, clear]
      rw [fold_next (i := k) hlt]
  · have hj : k = obs.length := by omega
    subst hj
    simp (disch := omega) only [rt17_1, VT.ok, X.ds, X.d, Op1.ev, Op2.ev, List.getD_cons_zero, List.getD_cons_succ, D.int_i, D.bool_b, D.lst_l, List.length_map, Bool.false_eq_true, ↓reduceIte, dlt_f]
    refine round_exit (by omega) ?_
    show lp17i [.l (l.map encQ), .l (obs.map encQ), .i (i : Int), .b f, .i (obs.length : Int)] = _
    simp only [lp17i, map_decQ, List.length_map, Int.toNat_natCast, clear, fold_end]
theorem loopM17_0 : LoopMeets Try.prog F (R L17_0.key) L17_0 lb17_0 := by
  refine loop_meets (pre := R) mixed (sgAt_all (P := Try.prog) (pre := R) (Φ := F) (l := sg17) (List.forall_mem_cons.2 ⟨Meets.at (pre := R) (Φ := F) m18, List.forall_mem_cons.2 ⟨Meets.at (pre := R) (Φ := F) m33, (fun _ h => nomatch h)⟩⟩)) (loops_n 1 lk17_0 fun k hk => match k, hk with | 0, _ => by rw [li17_0_0]; exact loop_this lf17_1 loopM17_1) L17_0 (fun ρ => (((ρ.getD 0 default).lst.length : Int) - (ρ.getD 2 default).int).toNat) le17_0 fun ρ _ hp => ?_
  obtain ⟨l, obs, j, acc, rfl, hj, h1, h2, ha⟩ : pr17 ρ := hp
  by_cases hlt : j < l.length
  · have hN : ∀ acc', acc' = acc ++ freeF l obs j → RoundOk F (R L17_0.key) (fun ρ => (((ρ.getD 0 default).lst.length : Int) - (ρ.getD 2 default).int).toNat) L17_0 [.l (l.map encQ), .l (obs.map encQ), .i (j : Int), .l (acc.map encI)] [.i (-1), .i ((j + 1 : Nat) : Int), .l (acc'.map encI)] := by
      rintro acc' rfl
      have hl : (acc ++ freeF l obs j).length ≤ j + 1 := by
        rw [List.length_append, freeF]; split <;> simp <;> omega
      refine round_next ⟨⟨l, obs, j + 1, _, rfl, by omega, h1, h2, hl⟩, ?_, ?_⟩
      · show (((l.map encQ).length : Int) - ((j + 1 : Nat) : Int)).toNat < (((l.map encQ).length : Int) - (j : Int)).toNat
        rw [List.length_map]; omega
      · show lp17 [.l (l.map encQ), .l (obs.map encQ), .i ((j + 1 : Nat) : Int), .l ((acc ++ freeF l obs j).map encI)] = lp17 [.l (l.map encQ), .l (obs.map encQ), .i (j : Int), .l (acc.map encI)]
        simp only [lp17, map_decQ, map_decI, List.length_map, Int.toNat_natCast]
        rw [coll_next (f := freeF l obs) hlt acc]
    have hpre : ∀ f, pr17i [.l (l.map encQ), .l (obs.map encQ), .i (j : Int), .b f, .i 0] := fun f => ⟨l, obs, j, 0, f, rfl, hlt, by omega, h1, h2⟩
    simp (disch := omega) only [rt17_0, VT.ok, Nd.holds, X.outs, X.ds, X.d, Op1.ev, Op2.ev, takeD_zero, takeD_cons, List.cons_append, List.nil_append, List.getD_cons_zero, List.getD_cons_succ, D.int_i, D.bool_b, D.lst_l, Int.toNat_natCast, List.length_map, implies_true, true_and, F11700, R11700, F18, R18, ↓reduceIte, dle_t, dlt_t, w64', rowQ, encQ, fn18_eq]
    refine ⟨fun _ => hpre _, ?_⟩
    simp only [lp17i, map_decQ, Int.toNat_natCast, Int.toNat_zero, clear_all, takeD_zero, takeD_cons, List.getD_cons_zero, List.getD_cons_succ, D.bool_b, Int.toNat_natCast, List.length_map]
    have e : (bv (l.getD j q0).1 (l.getD j q0).2.1 (l.getD j q0).2.2.1 (l.getD j q0).2.2.2 && !anyN (hitAt l obs j) obs.length) = freeAt l obs j := rfl
    rw [e]
    cases hq : freeAt l obs j
    · simp only [Bool.false_eq_true, if_false]
      exact hN acc (by rw [freeF, hq]; simp)
    · simp only [if_true, encI_eq, cat_map]
      refine ⟨by simp; omega, hN _ (by rw [freeF, hq]; simp)⟩
  · have hj : j = l.length := by omega
    subst hj
    simp (disch := omega) only [rt17_0, VT.ok, X.ds, X.d, Op1.ev, Op2.ev, List.getD_cons_zero, List.getD_cons_succ, D.int_i, D.bool_b, D.lst_l, List.length_map, Bool.false_eq_true, ↓reduceIte, dlt_f]
    refine round_exit (by omega) ?_
    show lp17 [.l (l.map encQ), .l (obs.map encQ), .i (l.length : Int), .l (acc.map encI)] = _
    simp only [lp17, map_decQ, map_decI, List.length_map, Int.toNat_natCast, coll_end]
theorem m17 : Meets Try.prog 17 S17 (R 17) (F 17) := by
  refine meets_of_vt (pre := R) (Φ := F) mixed (sgAt_all (P := Try.prog) (pre := R) (Φ := F) (l := sg17) (List.forall_mem_cons.2 ⟨Meets.at (pre := R) (Φ := F) m18, List.forall_mem_cons.2 ⟨Meets.at (pre := R) (Φ := F) m33, (fun _ h => nomatch h)⟩⟩)) Try.func17 b17 n17 (loops_n 2 k17 fun k hk => match k, hk with | 0, _ => loop_this lf17_0 loopM17_0 | 1, _ => loop_this lf17_1 loopM17_1) e17 fun ds _ hp => ?_
  obtain ⟨l, obs, rfl, h1, h2⟩ : freePre ds := hp
  simp only [vt17, VT.ok, Nd.holds, X.outs, X.ds, X.d, List.cons_append, List.nil_append, List.getD_cons_zero, List.getD_cons_succ, D.bool_b, F17, F11701, R11701, freeD, map_decQ]
  refine ⟨fun _ => ⟨l, obs, 0, [], rfl, by omega, h1, h2, by simp⟩, ?_⟩
  simp only [lp17, List.map_nil, List.nil_append, map_decQ, List.length_map]
  rfl
end Go.Proofs.Ytfmglokfgdjnjaa.rv
