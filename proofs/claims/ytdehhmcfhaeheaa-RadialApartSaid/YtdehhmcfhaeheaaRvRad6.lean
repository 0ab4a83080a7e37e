/-
  Radial drawings: rings.
-/
import Derived.Test.YtdehhmcfhaeheaaRvRad5
namespace Go.Proofs.Ytdehhmcfhaeheaa.rv
open Go.RV

theorem rts_succ (p : List Int) (i : Nat) : rts p (i + 1) = rts p i + if par p i < 0 then 1 else 0 := rfl
theorem rts_bd (p : List Int) : ∀ i : Nat, 0 ≤ rts p i ∧ rts p i ≤ i
  | 0 => by simp [rts, sumTo]
  | i + 1 => by
    have := rts_bd p i
    rw [rts_succ]
    split <;> omega
theorem rts_all (p : List Int) : rts p p.length = roots p := rfl

theorem loopM20_0 : LoopMeets Try.prog F (R L20_0.key) L20_0 lb20_0 := by
  refine loop_meets (pre := R) mixed (sgAt_all (P := Try.prog) (pre := R) (Φ := F) (l := sg20) ((fun _ h => nomatch h))) (loops_n 0 lk20_0 fun k hk => by omega) L20_0 (fun ρ => (((ρ.getD 0 default).lst.length : Int) - (ρ.getD 2 default).int).toNat) le20_0 fun ρ _ hq => ?_
  obtain ⟨p, i, rfl, hp, hi⟩ : pr20a ρ := hq
  have h64 := hp.1
  have hb := rts_bd p i
  by_cases hlt : i < p.length
  · have hN : ∀ x : Int, x = rts p (i + 1) → RoundOk F (R L20_0.key) (fun ρ => (((ρ.getD 0 default).lst.length : Int) - (ρ.getD 2 default).int).toNat) L20_0 [.l (p.map encI), .i (rts p i), .i (i : Int)] [.i (-1), .i x, .i ((i + 1 : Nat) : Int)] := by
      rintro x rfl
      refine round_next ⟨⟨p, i + 1, rfl, hp, by omega⟩, ?_, rfl⟩
      show (((p.map encI).length : Int) - ((i + 1 : Nat) : Int)).toNat < (((p.map encI).length : Int) - (i : Int)).toNat
      rw [List.length_map]; omega
    by_cases h0 : par p i < 0
    · simp (disch := omega) only [rt20_0, VT.ok, Nd.holds, X.ds, X.d, Op1.ev, Op2.ev, List.getD_cons_zero, List.getD_cons_succ, D.int_i, D.bool_b, D.lst_l, Int.toNat_natCast, List.length_map, implies_true, true_and, ↓reduceIte, dle_t, dlt_t, w64', parI, encI]
      exact hN _ (by rw [rts_succ, if_pos h0])
    · simp (disch := omega) only [rt20_0, VT.ok, Nd.holds, X.ds, X.d, Op1.ev, Op2.ev, List.getD_cons_zero, List.getD_cons_succ, D.int_i, D.bool_b, D.lst_l, Int.toNat_natCast, List.length_map, Bool.false_eq_true, implies_true, true_and, ↓reduceIte, dle_t, dlt_t, dlt_f, w64', parI, encI]
      exact hN _ (by rw [rts_succ, if_neg h0]; omega)
  · have hj : i = p.length := by omega
    subst hj
    simp (disch := omega) only [rt20_0, VT.ok, X.ds, X.d, Op1.ev, Op2.ev, List.getD_cons_zero, List.getD_cons_succ, D.int_i, D.bool_b, D.lst_l, List.length_map, Bool.false_eq_true, ↓reduceIte, dlt_f]
    refine round_exit (by omega) ?_
    show lp20a [.l (p.map encI), .i (rts p p.length), .i (p.length : Int)] = _
    simp only [lp20a, dp_enc, List.length_map, rts_all]
theorem ring0_bd (p : List Int) : 0 ≤ ring0 p ∧ ring0 p ≤ 1 := by unfold ring0; split <;> omega
theorem loopM20_1 : LoopMeets Try.prog F (R L20_1.key) L20_1 lb20_1 := by
  refine loop_meets (pre := R) mixed (sgAt_all (P := Try.prog) (pre := R) (Φ := F) (l := sg20) ((fun _ h => nomatch h))) (loops_n 0 lk20_1 fun k hk => by omega) L20_1 (fun ρ => (((ρ.getD 0 default).lst.length : Int) - (ρ.getD 2 default).int).toNat) le20_1 fun ρ _ hq => ?_
  obtain ⟨p, i, rfl, hp, hi⟩ : pr20b ρ := hq
  have h64 := hp.1
  by_cases hlt : i < p.length
  · have hb := hp.2 i hlt
    have hlen : (rowF (rg p) i).length = i := rowF_len
    have hN : ∀ x : Int, x = rg p i → RoundOk F (R L20_1.key) (fun ρ => (((ρ.getD 0 default).lst.length : Int) - (ρ.getD 2 default).int).toNat) L20_1 [.l (p.map encI), .i (roots p), .i (i : Int), .l ((rowF (rg p) i).map encI)] [.i (-1), .i ((i + 1 : Nat) : Int), .l ((rowF (rg p) i ++ [x]).map encI)] := by
      rintro x rfl
      rw [rowF_snoc]
      refine round_next ⟨⟨p, i + 1, rfl, hp, by omega⟩, ?_, rfl⟩
      show (((p.map encI).length : Int) - ((i + 1 : Nat) : Int)).toNat < (((p.map encI).length : Int) - (i : Int)).toNat
      rw [List.length_map]; omega
    have hpi : (p.map encI).getD i [] = encI (par p i) := parI hlt
    have hr := rg_eq hp hlt
    by_cases h0 : 0 ≤ par p i
    · rw [if_pos h0] at hr
      have hrb := rg_bd hp _ (par p i).toNat (Nat.le_refl _) (by omega)
      have hg : (rowF (rg p) i).getD (par p i).toNat 0 = rg p (par p i).toNat := rowF_get 0 (by omega)
      by_cases h1 : 1 < roots p
      · simp (disch := omega) only [rt20_1, VT.ok, Nd.holds, X.ds, X.d, Op1.ev, Op2.ev, List.getD_cons_zero, List.getD_cons_succ, D.int_i, D.bool_b, D.lst_l, Int.toNat_natCast, List.length_map, implies_true, true_and, ↓reduceIte, dle_t, dlt_t, w64', hpi, rowI, catI, hlen, hg, List.length_append, List.length_cons, List.length_nil, encI]
        exact hN _ hr.symm
      · simp (disch := omega) only [rt20_1, VT.ok, Nd.holds, X.ds, X.d, Op1.ev, Op2.ev, List.getD_cons_zero, List.getD_cons_succ, D.int_i, D.bool_b, D.lst_l, Int.toNat_natCast, List.length_map, Bool.false_eq_true, implies_true, true_and, ↓reduceIte, dle_t, dlt_t, dlt_f, w64', hpi, rowI, catI, hlen, hg, List.length_append, List.length_cons, List.length_nil, encI]
        exact hN _ hr.symm
    · rw [if_neg h0] at hr
      by_cases h1 : 1 < roots p
      · have e : ring0 p = 1 := by rw [ring0, if_pos h1]
        simp (disch := omega) only [rt20_1, VT.ok, Nd.holds, X.ds, X.d, Op1.ev, Op2.ev, List.getD_cons_zero, List.getD_cons_succ, D.int_i, D.bool_b, D.lst_l, Int.toNat_natCast, List.length_map, Bool.false_eq_true, implies_true, true_and, ↓reduceIte, dle_t, dle_f, dlt_t, w64', hpi, catI, hlen, List.length_append, List.length_cons, List.length_nil, encI]
        exact hN _ (by omega)
      · have e : ring0 p = 0 := by rw [ring0, if_neg h1]
        simp (disch := omega) only [rt20_1, VT.ok, Nd.holds, X.ds, X.d, Op1.ev, Op2.ev, List.getD_cons_zero, List.getD_cons_succ, D.int_i, D.bool_b, D.lst_l, Int.toNat_natCast, List.length_map, Bool.false_eq_true, implies_true, true_and, ↓reduceIte, dle_t, dle_f, dlt_t, dlt_f, w64', hpi, catI, hlen, List.length_append, List.length_cons, List.length_nil, encI]
        exact hN _ (by omega)
  · have hj : i = p.length := by omega
    subst hj
    simp (disch := omega) only [rt20_1, VT.ok, X.ds, X.d, Op1.ev, Op2.ev, List.getD_cons_zero, List.getD_cons_succ, D.int_i, D.bool_b, D.lst_l, List.length_map, Bool.false_eq_true, ↓reduceIte, dlt_f]
    refine round_exit (by omega) ?_
    show lp20b [.l (p.map encI), .i (roots p), .i (p.length : Int), .l ((rowF (rg p) p.length).map encI)] = _
    simp only [lp20b, dp_enc, List.length_map]
    rfl
theorem m20 : Meets Try.prog 20 S20 (R 20) (F 20) := by
  refine meets_of_vt (pre := R) (Φ := F) mixed (sgAt_all (P := Try.prog) (pre := R) (Φ := F) (l := sg20) ((fun _ h => nomatch h))) Try.func20 b20 n20 (loops_n 2 k20 fun k hk => match k, hk with | 0, _ => loop_this lf20_0 loopM20_0 | 1, _ => loop_this lf20_1 loopM20_1) e20 fun ds _ hq => ?_
  obtain ⟨p, rfl, hp⟩ : fPre ds := hq
  have h1 : pr20a [.l (p.map encI), .i 0, .i 0] := ⟨p, 0, rfl, hp, by omega⟩
  have h2 : pr20b [.l (p.map encI), .i (roots p), .i 0, .l []] := ⟨p, 0, rfl, hp, by omega⟩
  simp only [vt20, VT.ok, Nd.holds, X.outs, X.ds, X.d, takeD_zero, takeD_cons, List.cons_append, List.nil_append, List.getD_cons_zero, List.getD_cons_succ, D.bool_b, List.length_map, and_true, F20, F12000, R12000, F12001, R12001, lp20a, lp20b, ringD, dp_enc]
  exact ⟨fun _ => h1, fun _ => h2⟩
theorem loopM25_0 : LoopMeets Try.prog F (R L25_0.key) L25_0 lb25_0 := by
  refine loop_meets (pre := R) mixed (sgAt_all (P := Try.prog) (pre := R) (Φ := F) (l := sg25) ((fun _ h => nomatch h))) (loops_n 0 lk25_0 fun k hk => by omega) L25_0 (fun ρ => ((ρ.getD 2 default).int - (ρ.getD 3 default).int).toNat) le25_0 fun ρ _ hq => ?_
  obtain ⟨p, i, rfl, hp, hi⟩ : pr25a ρ := hq
  have h64 := hp.1
  have hb := rts_bd p i
  by_cases hlt : i < p.length
  · have hN : ∀ x : Int, x = rts p (i + 1) → RoundOk F (R L25_0.key) (fun ρ => ((ρ.getD 2 default).int - (ρ.getD 3 default).int).toNat) L25_0 [.i (rts p i), .l (p.map encI), .i (p.length : Int), .i (i : Int)] [.i (-1), .i x, .i ((i + 1 : Nat) : Int)] := by
      rintro x rfl
      refine round_next ⟨⟨p, i + 1, rfl, hp, by omega⟩, ?_, rfl⟩
      show ((p.length : Int) - ((i + 1 : Nat) : Int)).toNat < ((p.length : Int) - (i : Int)).toNat
      omega
    by_cases h0 : par p i < 0
    · simp (disch := omega) only [rt25_0, VT.ok, Nd.holds, X.ds, X.d, Op1.ev, Op2.ev, List.getD_cons_zero, List.getD_cons_succ, D.int_i, D.bool_b, D.lst_l, Int.toNat_natCast, List.length_map, implies_true, true_and, ↓reduceIte, dle_t, dlt_t, w64', parI, encI]
      exact hN _ (by rw [rts_succ, if_pos h0])
    · simp (disch := omega) only [rt25_0, VT.ok, Nd.holds, X.ds, X.d, Op1.ev, Op2.ev, List.getD_cons_zero, List.getD_cons_succ, D.int_i, D.bool_b, D.lst_l, Int.toNat_natCast, List.length_map, Bool.false_eq_true, implies_true, true_and, ↓reduceIte, dle_t, dlt_t, dlt_f, w64', parI, encI]
      exact hN _ (by rw [rts_succ, if_neg h0]; omega)
  · have hj : i = p.length := by omega
    subst hj
    simp (disch := omega) only [rt25_0, VT.ok, X.ds, X.d, Op2.ev, List.getD_cons_zero, List.getD_cons_succ, D.int_i, D.bool_b, Bool.false_eq_true, ↓reduceIte, dlt_f]
    refine round_exit (by omega) ?_
    show lp25a [.i (rts p p.length), .l (p.map encI), .i (p.length : Int), .i (p.length : Int)] = _
    simp only [lp25a, dp_enc, rts_all]
theorem loopM25_1 : LoopMeets Try.prog F (R L25_1.key) L25_1 lb25_1 := by
  refine loop_meets (pre := R) mixed (sgAt_all (P := Try.prog) (pre := R) (Φ := F) (l := sg25) ((fun _ h => nomatch h))) (loops_n 0 lk25_1 fun k hk => by omega) L25_1 (fun ρ => ((ρ.getD 2 default).int - (ρ.getD 3 default).int).toNat) le25_1 fun ρ _ hq => ?_
  obtain ⟨p, i, rfl, hp, hi⟩ : pr25b ρ := hq
  have h64 := hp.1
  by_cases hlt : i < p.length
  · have hb := hp.2 i hlt
    have hlen : (rowF (rup p i) p.length).length = p.length := rowF_len
    have hN : ∀ acc : List Int, acc = rowF (rup p (i + 1)) p.length → RoundOk F (R L25_1.key) (fun ρ => ((ρ.getD 2 default).int - (ρ.getD 3 default).int).toNat) L25_1 [.i (roots p), .l (p.map encI), .i (p.length : Int), .i (i : Int), .l ((rowF (rup p i) p.length).map encI)] [.i (-1), .i ((i + 1 : Nat) : Int), .l (acc.map encI)] := by
      rintro x rfl
      refine round_next ⟨⟨p, i + 1, rfl, hp, by omega⟩, ?_, rfl⟩
      show ((p.length : Int) - ((i + 1 : Nat) : Int)).toNat < ((p.length : Int) - (i : Int)).toNat
      omega
    have hset : ∀ x, x = rg p i → (rowF (rup p i) p.length).set i x = rowF (rup p (i + 1)) p.length := by
      rintro x rfl
      rw [rowF_set]
      refine rowF_congr fun v hv => ?_
      unfold rup
      by_cases e : v = i
      · subst e; rw [if_pos rfl, if_pos (by omega)]
      · rw [if_neg e]
        by_cases e2 : v < i
        · rw [if_pos e2, if_pos (by omega)]
        · rw [if_neg e2, if_neg (by omega)]
    have hpi : (p.map encI).getD i [] = encI (par p i) := parI hlt
    have hr := rg_eq hp hlt
    by_cases h0 : 0 ≤ par p i
    · rw [if_pos h0] at hr
      have hrb := rg_bd hp _ (par p i).toNat (Nat.le_refl _) (by omega)
      have hg : (rowF (rup p i) p.length).getD (par p i).toNat 0 = rg p (par p i).toNat := by
        rw [rowF_get 0 (by omega), rup, if_pos (by omega)]
      simp (disch := omega) only [rt25_1, VT.ok, Nd.holds, X.ds, X.d, Op1.ev, Op2.ev, List.getD_cons_zero, List.getD_cons_succ, D.int_i, D.bool_b, D.lst_l, Int.toNat_natCast, List.length_map, implies_true, true_and, ↓reduceIte, dle_t, dlt_t, w64', hpi, rowI, splI, setI, hlen, hg, encI]
      exact hN _ (hset _ hr.symm)
    · rw [if_neg h0] at hr
      by_cases h1 : 1 < roots p
      · have e : ring0 p = 1 := by rw [ring0, if_pos h1]
        simp (disch := omega) only [rt25_1, VT.ok, Nd.holds, X.ds, X.d, Op1.ev, Op2.ev, List.getD_cons_zero, List.getD_cons_succ, D.int_i, D.bool_b, D.lst_l, Int.toNat_natCast, List.length_map, Bool.false_eq_true, implies_true, true_and, ↓reduceIte, dle_t, dle_f, dlt_t, w64', hpi, rowI, splI, setI, hlen, encI]
        exact hN _ (hset _ (by omega))
      · have e : ring0 p = 0 := by rw [ring0, if_neg h1]
        simp (disch := omega) only [rt25_1, VT.ok, Nd.holds, X.ds, X.d, Op1.ev, Op2.ev, List.getD_cons_zero, List.getD_cons_succ, D.int_i, D.bool_b, D.lst_l, Int.toNat_natCast, List.length_map, Bool.false_eq_true, implies_true, true_and, ↓reduceIte, dle_t, dle_f, dlt_t, dlt_f, w64', hpi, encI]
        refine hN _ ?_
        rw [← hset 0 (by omega), set_same _ 0 (by omega)]
        rw [rowF_get 0 (by omega), rup, if_neg (by omega)]
  · have hj : i = p.length := by omega
    subst hj
    simp (disch := omega) only [rt25_1, VT.ok, X.ds, X.d, Op2.ev, List.getD_cons_zero, List.getD_cons_succ, D.int_i, D.bool_b, Bool.false_eq_true, ↓reduceIte, dlt_f]
    refine round_exit (by omega) ?_
    have e : rowF (rup p p.length) p.length = Rrow p := rowF_congr fun v hv => by rw [rup, if_pos hv]
    show lp25b [.i (roots p), .l (p.map encI), .i (p.length : Int), .i (p.length : Int), .l ((rowF (rup p p.length) p.length).map encI)] = _
    simp only [lp25b, dp_enc, e]
theorem m25 : Meets Try.prog 25 S25 (R 25) (F 25) := by
  refine meets_of_vt (pre := R) (Φ := F) mixed (sgAt_all (P := Try.prog) (pre := R) (Φ := F) (l := sg25) ((fun _ h => nomatch h))) Try.func25 b25 n25 (loops_n 2 k25 fun k hk => match k, hk with | 0, _ => loop_this lf25_0 loopM25_0 | 1, _ => loop_this lf25_1 loopM25_1) e25 fun ds _ hq => ?_
  obtain ⟨p, rfl, hp⟩ : fPre ds := hq
  have h64 := hp.1
  have h1 : pr25a [.i 0, .l (p.map encI), .i (p.length : Int), .i 0] := ⟨p, 0, rfl, hp, by omega⟩
  have hz : List.replicate p.length [D.i 0] = (rowF (rup p 0) p.length).map encI := by
    rw [show rowF (rup p 0) p.length = rowF (fun _ => 0) p.length from rowF_congr fun v hv => by rw [rup, if_neg (by omega)], ← rowF_rep encI]; rfl
  have h2 : pr25b [.i (roots p), .l (p.map encI), .i (p.length : Int), .i 0, .l ((rowF (rup p 0) p.length).map encI)] := ⟨p, 0, rfl, hp, by omega⟩
  simp (disch := omega) only [vt25, VT.ok, Nd.holds, X.outs, X.ds, X.d, Op1.ev, Op2.ev, takeD_zero, takeD_cons, List.cons_append, List.nil_append, List.getD_cons_zero, List.getD_cons_succ, D.int_i, D.bool_b, D.lst_l, Int.toNat_natCast, List.length_map, implies_true, true_and, and_true, dle_t, F25, F12500, R12500, F12501, R12501, lp25a, lp25b, ringD, dp_enc, hz]
  exact ⟨fun _ => h1, fun _ => h2⟩
theorem loopM26_0 : LoopMeets Try.prog F (R L26_0.key) L26_0 lb26_0 := by
  refine loop_meets (pre := R) mixed (sgAt_all (P := Try.prog) (pre := R) (Φ := F) (l := sg26) ((fun _ h => nomatch h))) (loops_n 0 lk26_0 fun k hk => by omega) L26_0 (fun ρ => (((ρ.getD 0 default).lst.length : Int) - (ρ.getD 2 default).int).toNat) le26_0 fun ρ _ hq => ?_
  obtain ⟨l, m, i, rfl, hi, hm⟩ : pr26 ρ := hq
  rw [maxLen_val] at hm
  by_cases hlt : i < l.length
  · simp (disch := omega) only [rt26_0, VT.ok, Nd.holds, X.ds, X.d, Op1.ev, Op2.ev, List.getD_cons_zero, List.getD_cons_succ, D.int_i, D.bool_b, D.lst_l, imax, Int.toNat_natCast, List.length_map, implies_true, true_and, ↓reduceIte, dle_t, dlt_t, w64', rowI, encI]
    refine round_next ⟨⟨l, max m (l.getD i 0), i + 1, rfl, by omega, hm⟩, ?_, ?_⟩
    · show (((l.map encI).length : Int) - ((i + 1 : Nat) : Int)).toNat < (((l.map encI).length : Int) - (i : Int)).toNat
      rw [List.length_map]; omega
    · show lp26 [.l (l.map encI), .i (max m (l.getD i 0)), .i ((i + 1 : Nat) : Int)] = lp26 [.l (l.map encI), .i m, .i (i : Int)]
      simp only [lp26, dp_enc, Int.toNat_natCast, mxF]
      rw [fold_next (i := i) hlt]
  · have hj : i = l.length := by omega
    subst hj
    simp (disch := omega) only [rt26_0, VT.ok, X.ds, X.d, Op1.ev, Op2.ev, List.getD_cons_zero, List.getD_cons_succ, D.int_i, D.bool_b, D.lst_l, List.length_map, Bool.false_eq_true, ↓reduceIte, dlt_f]
    refine round_exit (by omega) ?_
    show lp26 [.l (l.map encI), .i m, .i (l.length : Int)] = _
    simp only [lp26, dp_enc, List.length_map, Int.toNat_natCast, mxF, fold_end]
theorem m26 : Meets Try.prog 26 S26 (R 26) (F 26) := by
  refine meets_of_vt (pre := R) (Φ := F) mixed (sgAt_all (P := Try.prog) (pre := R) (Φ := F) (l := sg26) ((fun _ h => nomatch h))) Try.func26 b26 n26 (loops_n 1 k26 fun k hk => match k, hk with | 0, _ => loop_this lf26_0 loopM26_0) e26 fun ds _ hq => ?_
  obtain ⟨l, rfl, h1, hm⟩ : maxPre ds := hq
  have hpre : pr26 [.l (l.map encI), .i (l.getD 0 0), .i 1] := ⟨l, _, 1, rfl, by omega, hm⟩
  simp (disch := omega) only [vt26, VT.ok, Nd.holds, X.outs, X.ds, X.d, Op1.ev, Op2.ev, takeD_zero, takeD_cons, List.cons_append, List.nil_append, List.getD_cons_zero, List.getD_cons_succ, D.int_i, D.bool_b, D.lst_l, List.length_map, Bool.false_eq_true, implies_true, true_and, and_true, ↓reduceIte, dlt_t, dlt_f, F26, F12600, R12600, rowI, encI, Int.toNat_zero, lp26, maxD, dp_enc, show Int.toNat 1 = 1 from rfl]
  exact fun _ => hpre
end Go.Proofs.Ytdehhmcfhaeheaa.rv
