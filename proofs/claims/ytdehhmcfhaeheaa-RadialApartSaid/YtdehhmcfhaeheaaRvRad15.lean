/-
  Radial drawings: the reference's places.
-/
import Derived.Test.YtdehhmcfhaeheaaRvRad14
namespace Go.Proofs.Ytdehhmcfhaeheaa.rv
open Go.RV

theorem loopM15_0 : LoopMeets Try.prog F (R L15_0.key) L15_0 lb15_0 := by
  refine loop_meets (pre := R) mixed (sgAt_all (P := Try.prog) (pre := R) (Φ := F) (l := sg15) (List.forall_mem_cons.2 ⟨Meets.at (pre := R) (Φ := F) m19, List.forall_mem_cons.2 ⟨Meets.at (pre := R) (Φ := F) m20, List.forall_mem_cons.2 ⟨Meets.at (pre := R) (Φ := F) m10, List.forall_mem_cons.2 ⟨Meets.at (pre := R) (Φ := F) m28, (fun _ h => nomatch h)⟩⟩⟩⟩)) (loops_n 0 lk15_0 fun k hk => by omega) L15_0 (fun ρ => (((ρ.getD 3 default).lst.length : Int) - (ρ.getD 4 default).int).toNat) le15_0 fun ρ _ hq => ?_
  obtain ⟨p, s, v, e, i, rfl, hp, hi⟩ : pr15a ρ := hq
  have h64 := hp.1
  have hlR : (Rrow p).length = p.length := rowF_len
  by_cases hlt : i < p.length
  · have hR : (Rrow p).getD i 0 = rg p i := rowF_get 0 hlt
    have hr := (rg_bd hp _ i (Nat.le_refl _) hlt).2.1
    have hdiv : (1048576 : Int).tdiv (rg p i) = 1048576 / rg p i := tdivp (by omega)
    have hN : farR (Rrow p) s i = false → RoundOk F (R L15_0.key) (fun ρ => (((ρ.getD 3 default).lst.length : Int) - (ρ.getD 4 default).int).toNat) L15_0 [.i s, v, e, .l ((Rrow p).map encI), .i (i : Int)] [.i (-1), v, e, .i ((i + 1 : Nat) : Int)] := by
      intro hf
      refine round_next ⟨⟨p, s, v, e, i + 1, rfl, hp, by omega⟩, ?_, ?_⟩
      · show ((((Rrow p).map encI).length : Int) - ((i + 1 : Nat) : Int)).toNat < ((((Rrow p).map encI).length : Int) - (i : Int)).toNat
        rw [List.length_map]; omega
      · show lp15a [.i s, v, e, .l ((Rrow p).map encI), .i ((i + 1 : Nat) : Int)] = lp15a [.i s, v, e, .l ((Rrow p).map encI), .i (i : Int)]
        simp only [lp15a, dp_enc, List.length_map, Int.toNat_natCast]
        exact scan_next (by omega) hf
    by_cases h0 : 0 < rg p i
    · have hd : 0 ≤ 1048576 / rg p i ∧ 1048576 / rg p i ≤ 1048576 := ⟨Int.ediv_nonneg (by omega) (by omega), Int.ediv_le_self _ (by omega)⟩
      by_cases h1 : 1048576 / rg p i < s
      · simp (disch := omega) only [rt15_0, VT.ok, Nd.holds, X.ds, X.d, Op1.ev, Op2.ev, List.getD_cons_zero, List.getD_cons_succ, D.int_i, D.bool_b, D.lst_l, Int.toNat_natCast, List.length_map, implies_true, true_and, ↓reduceIte, dle_t, dlt_t, beq_f, w64', rowI, encI, hR, hlR, hdiv, Bool.not_false]
        refine round_exit (by omega) ?_
        show lp15a [.i s, v, e, .l ((Rrow p).map encI), .i (i : Int)] = _
        simp only [lp15a, dp_enc, List.length_map, Int.toNat_natCast]
        exact scan_hit (by omega) (by rw [farR, hR, dlt_t h0, dlt_t h1]; rfl)
      · simp (disch := omega) only [rt15_0, VT.ok, Nd.holds, X.ds, X.d, Op1.ev, Op2.ev, List.getD_cons_zero, List.getD_cons_succ, D.int_i, D.bool_b, D.lst_l, Int.toNat_natCast, List.length_map, Bool.false_eq_true, implies_true, true_and, ↓reduceIte, dle_t, dlt_t, dlt_f, beq_f, w64', rowI, encI, hR, hlR, hdiv, Bool.not_false]
        exact hN (by rw [farR, hR, dlt_t h0, dlt_f (by omega)]; rfl)
    · simp (disch := omega) only [rt15_0, VT.ok, Nd.holds, X.ds, X.d, Op1.ev, Op2.ev, List.getD_cons_zero, List.getD_cons_succ, D.int_i, D.bool_b, D.lst_l, Int.toNat_natCast, List.length_map, Bool.false_eq_true, implies_true, true_and, ↓reduceIte, dle_t, dlt_t, dlt_f, beq_t, w64', rowI, encI, hR, hlR]
      exact ⟨fun h => h.elim, hN (by rw [farR, hR, dlt_f (by omega)]; rfl)⟩
  · have hj : i = p.length := by omega
    subst hj
    simp (disch := omega) only [rt15_0, VT.ok, X.ds, X.d, Op1.ev, Op2.ev, List.getD_cons_zero, List.getD_cons_succ, D.int_i, D.bool_b, D.lst_l, List.length_map, Bool.false_eq_true, ↓reduceIte, dlt_f, hlR]
    refine round_exit (by omega) ?_
    show lp15a [.i s, v, e, .l ((Rrow p).map encI), .i (p.length : Int)] = _
    simp only [lp15a, dp_enc, List.length_map, Int.toNat_natCast, hlR]
    exact scan_end
theorem loopM15_1 : LoopMeets Try.prog F (R L15_1.key) L15_1 lb15_1 := by
  refine loop_meets (pre := R) mixed (sgAt_all (P := Try.prog) (pre := R) (Φ := F) (l := sg15) (List.forall_mem_cons.2 ⟨Meets.at (pre := R) (Φ := F) m19, List.forall_mem_cons.2 ⟨Meets.at (pre := R) (Φ := F) m20, List.forall_mem_cons.2 ⟨Meets.at (pre := R) (Φ := F) m10, List.forall_mem_cons.2 ⟨Meets.at (pre := R) (Φ := F) m28, (fun _ h => nomatch h)⟩⟩⟩⟩)) (loops_n 0 lk15_1 fun k hk => by omega) L15_1 (fun ρ => (((ρ.getD 1 default).lst.length : Int) - (ρ.getD 3 default).int).toNat) le15_1 fun ρ _ hq => ?_
  obtain ⟨p, s, i, acc, rfl, hs, hi, ha⟩ : pr15b ρ := hq
  have h64 := hs.1.1
  have hlA : (Arow p).length = p.length := rowF_len
  have hlR : (Rrow p).length = p.length := rowF_len
  by_cases hlt : i < p.length
  · have hA : (Arow p).getD i 0 = ang p i := rowF_get 0 hlt
    have hR : (Rrow p).getD i 0 = rg p i := rowF_get 0 hlt
    have hg := sgood hs hlt
    have hN : ∀ x : Pt, x = pol 0 0 (rg p i * s) (ang p i) → RoundOk F (R L15_1.key) (fun ρ => (((ρ.getD 1 default).lst.length : Int) - (ρ.getD 3 default).int).toNat) L15_1 [.i s, .l ((Rrow p).map encI), .l ((Arow p).map encI), .i (i : Int), .l (acc.map encP)] [.i (-1), .i ((i + 1 : Nat) : Int), .l ((acc ++ [x]).map encP)] := by
      rintro x rfl
      refine round_next ⟨⟨p, s, i + 1, _, rfl, hs, by omega, by simp [ha]⟩, ?_, ?_⟩
      · show ((((Rrow p).map encI).length : Int) - ((i + 1 : Nat) : Int)).toNat < ((((Rrow p).map encI).length : Int) - (i : Int)).toNat
        rw [List.length_map]; omega
      · show lp15b [.i s, .l ((Rrow p).map encI), .l ((Arow p).map encI), .i ((i + 1 : Nat) : Int), .l ((acc ++ [pol 0 0 (rg p i * s) (ang p i)]).map encP)] = lp15b [.i s, .l ((Rrow p).map encI), .l ((Arow p).map encI), .i (i : Int), .l (acc.map encP)]
        simp only [lp15b, dp_enc, map_decP, List.length_map, Int.toNat_natCast]
        rw [coll_next (f := stepsF (Arow p) (Rrow p) s) (i := i) (by rw [hlR]; exact hlt) acc]
        simp only [stepsF, hA, hR]
    simp (disch := omega) only [rt15_1, VT.ok, Nd.holds, X.outs, X.ds, X.d, Op1.ev, Op2.ev, takeD_zero, takeD_cons, List.cons_append, List.nil_append, List.getD_cons_zero, List.getD_cons_succ, D.int_i, D.bool_b, D.lst_l, Int.toNat_natCast, List.length_map, implies_true, true_and, F28, R28, ↓reduceIte, dle_t, dlt_t, w64', rowI, encI, hA, hR, hlA, hlR, polD, catP, List.length_append, List.length_cons, List.length_nil]
    exact hN _ rfl
  · have hj : i = p.length := by omega
    subst hj
    simp (disch := omega) only [rt15_1, VT.ok, X.ds, X.d, Op1.ev, Op2.ev, List.getD_cons_zero, List.getD_cons_succ, D.int_i, D.bool_b, D.lst_l, List.length_map, Bool.false_eq_true, ↓reduceIte, dlt_f, hlR]
    refine round_exit (by omega) ?_
    show lp15b [.i s, .l ((Rrow p).map encI), .l ((Arow p).map encI), .i (p.length : Int), .l (acc.map encP)] = _
    simp only [lp15b, dp_enc, map_decP, List.length_map, Int.toNat_natCast, hlR, coll_end]
theorem far_row {p : List Int} {s : Int} : anyN (farR (Rrow p) s) p.length = anyN (tooFar p s) p.length := by
  rw [Bool.eq_iff_iff, anyN_iff, anyN_iff]
  have e : ∀ j, j < p.length → farR (Rrow p) s j = tooFar p s j := fun j hj => by rw [farR, show (Rrow p).getD j 0 = rg p j from rowF_get 0 hj]; rfl
  exact ⟨fun ⟨j, hj, h⟩ => ⟨j, hj, by rw [← e j hj]; exact h⟩, fun ⟨j, hj, h⟩ => ⟨j, hj, by rw [e j hj]; exact h⟩⟩
theorem m15 : Meets Try.prog 15 S15 (R 15) (F 15) := by
  refine meets_of_vt (pre := R) (Φ := F) mixed (sgAt_all (P := Try.prog) (pre := R) (Φ := F) (l := sg15) (List.forall_mem_cons.2 ⟨Meets.at (pre := R) (Φ := F) m19, List.forall_mem_cons.2 ⟨Meets.at (pre := R) (Φ := F) m20, List.forall_mem_cons.2 ⟨Meets.at (pre := R) (Φ := F) m10, List.forall_mem_cons.2 ⟨Meets.at (pre := R) (Φ := F) m28, (fun _ h => nomatch h)⟩⟩⟩⟩)) Try.func15 b15 n15 (loops_n 2 k15 fun k hk => match k, hk with | 0, _ => loop_this lf15_0 loopM15_0 | 1, _ => loop_this lf15_1 loopM15_1) e15 fun ds _ hq => ?_
  obtain ⟨p, s, rfl, hm, hs⟩ : plPre ds := hq
  have h0 : lPre [.l (p.map encI)] := ⟨p, rfl, hm⟩
  simp only [vt15, VT.ok, Nd.holds, X.outs, X.ds, X.d, Op1.ev, Op2.ev, takeD_zero, takeD_cons, List.cons_append, List.nil_append, List.getD_cons_zero, List.getD_cons_succ, D.int_i, D.bool_b, ite_b, ite_or, F19, R19, F10, R10, F20, R20, F15, F11500, R11500, F11501, R11501, okD, dp_enc, angD, placeD]
  refine ⟨fun _ => h0, ?_⟩
  by_cases hk : okF p = true ∧ 0 ≤ s
  · obtain ⟨hk, hs0⟩ := hk
    have hf := okF_iff.1 hk
    have h64 := hf.1
    have h1 : fPre [.l (p.map encI)] := ⟨p, rfl, hf⟩
    have hlR : (Rrow p).length = p.length := rowF_len
    have ha : pr15a [.i s, .l [], .i 0, .l ((Rrow p).map encI), .i 0] := ⟨p, s, _, _, 0, rfl, hf, by omega⟩
    have hpre : goodS p s → pr15b [.i s, .l ((Rrow p).map encI), .l ((Arow p).map encI), .i 0, .l []] := fun hg => ⟨p, s, 0, [], rfl, hg, by omega, rfl⟩
    simp (disch := omega) only [takeD_zero, takeD_cons, List.cons_append, List.nil_append, List.getD_cons_zero, List.getD_cons_succ, List.length_map, Bool.false_eq_true, ↓reduceIte, dlt_f, hk, hlR, ringD, dp_enc, Bool.not_true, Bool.or_self, lp15a, Int.toNat_zero, Nat.sub_zero]
    refine ⟨fun _ => h1, fun _ => ha, ?_⟩
    rcases scan_two (p := farR (Rrow p) s) p.length with ⟨h1', j, _, _, _, h⟩ | ⟨h1', h⟩
    · rw [far_row] at h1'
      have hpe : perr p s = 2 := by rw [perr, if_pos ⟨hk, hs0⟩, if_pos h1']
      have hpt : pts p s = [] := by rw [pts, if_neg (by rw [hpe]; decide)]
      simp (disch := omega) only [takeD_zero, takeD_cons, List.getD_cons_zero, List.getD_cons_succ, D.int_i, ↓reduceIte, beq_t, h, hpe, hpt, List.map_nil]
    · rw [far_row] at h1'
      have hg : goodS p s := ⟨hf, hs0, hs.2, h1'⟩
      simp (disch := omega) only [takeD_zero, takeD_cons, List.cons_append, List.nil_append, List.getD_cons_zero, List.getD_cons_succ, D.int_i, List.length_map, Bool.false_eq_true, and_true, ↓reduceIte, beq_f, h, hlR, dp_enc, lp15b, List.map_nil, Int.toNat_zero, List.nil_append, coll_pts, perr_good hg, pts_good hg]
      exact ⟨fun _ => h0, fun _ => hpre hg⟩
  · have hpe : perr p s = 1 := by rw [perr, if_neg hk]
    have hpt : pts p s = [] := by rw [pts, if_neg (by rw [hpe]; decide)]
    have hc : (!okF p || decide (s < 0)) = true := by
      cases h : okF p
      · rfl
      · rw [dlt_t (by rw [h] at hk; simp at hk; omega)]; rfl
    simp only [if_true, hc, hpe, hpt]
    rfl
end Go.Proofs.Ytdehhmcfhaeheaa.rv
