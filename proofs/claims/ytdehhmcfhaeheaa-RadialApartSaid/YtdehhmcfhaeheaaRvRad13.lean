/-
  Radial drawings: places.
-/
import Derived.Test.YtdehhmcfhaeheaaRvRad12
namespace Go.Proofs.Ytdehhmcfhaeheaa.rv
open Go.RV

theorem sgood {p : List Int} {s : Int} (h : goodS p s) {i : Nat} (hi : i < p.length) : 0 ≤ rg p i ∧ 0 ≤ rg p i * s ∧ rg p i * s ≤ 1048576 := by
  obtain ⟨hp, h0, _, h2⟩ := h
  have hr := (rg_bd hp _ i (Nat.le_refl _) hi).2.1
  have h3 := anyN_false.1 h2 i hi
  simp only [tooFar, Bool.and_eq_false_iff, decide_eq_false_iff_not] at h3
  refine ⟨hr, Int.mul_nonneg hr h0, ?_⟩
  by_cases e : 0 < rg p i
  · have h4 : s ≤ 1048576 / rg p i := by omega
    have h5 := Int.mul_le_mul_of_nonneg_left h4 hr
    have h6 := Int.mul_ediv_self_le (x := 1048576) (k := rg p i) (by omega)
    omega
  · rw [show rg p i = 0 by omega, Int.zero_mul]; omega
theorem loopM14_0 : LoopMeets Try.prog F (R L14_0.key) L14_0 lb14_0 := by
  refine loop_meets (pre := R) mixed (sgAt_all (P := Try.prog) (pre := R) (Φ := F) (l := sg14) (List.forall_mem_cons.2 ⟨Meets.at (pre := R) (Φ := F) m22, List.forall_mem_cons.2 ⟨Meets.at (pre := R) (Φ := F) m9, List.forall_mem_cons.2 ⟨Meets.at (pre := R) (Φ := F) m25, List.forall_mem_cons.2 ⟨Meets.at (pre := R) (Φ := F) m26, List.forall_mem_cons.2 ⟨Meets.at (pre := R) (Φ := F) m27, (fun _ h => nomatch h)⟩⟩⟩⟩⟩)) (loops_n 0 lk14_0 fun k hk => by omega) L14_0 (fun ρ => ((ρ.getD 3 default).int - (ρ.getD 4 default).int).toNat) le14_0 fun ρ _ hq => ?_
  obtain ⟨p, s, i, acc, rfl, hs, hi, ha⟩ : pr14 ρ := hq
  have h64 := hs.1.1
  have hlA : (Arow p).length = p.length := rowF_len
  have hlR : (Rrow p).length = p.length := rowF_len
  by_cases hlt : i < p.length
  · have hA : (Arow p).getD i 0 = ang p i := rowF_get 0 hlt
    have hR : (Rrow p).getD i 0 = rg p i := rowF_get 0 hlt
    have hg := sgood hs hlt
    have hN : ∀ x : Pt, x = pol 0 0 (rg p i * s) (ang p i) → RoundOk F (R L14_0.key) (fun ρ => ((ρ.getD 3 default).int - (ρ.getD 4 default).int).toNat) L14_0 [.i s, .l ((Arow p).map encI), .l ((Rrow p).map encI), .i (p.length : Int), .i (i : Int), .l (acc.map encP)] [.i (-1), .i ((i + 1 : Nat) : Int), .l ((acc ++ [x]).map encP)] := by
      rintro x rfl
      refine round_next ⟨⟨p, s, i + 1, _, rfl, hs, by omega, by simp [ha]⟩, ?_, ?_⟩
      · show ((p.length : Int) - ((i + 1 : Nat) : Int)).toNat < ((p.length : Int) - (i : Int)).toNat
        omega
      · show lp14 [.i s, .l ((Arow p).map encI), .l ((Rrow p).map encI), .i (p.length : Int), .i ((i + 1 : Nat) : Int), .l ((acc ++ [pol 0 0 (rg p i * s) (ang p i)]).map encP)] = lp14 [.i s, .l ((Arow p).map encI), .l ((Rrow p).map encI), .i (p.length : Int), .i (i : Int), .l (acc.map encP)]
        simp only [lp14, dp_enc, map_decP, List.length_map, Int.toNat_natCast]
        rw [coll_next (f := stepsF (Arow p) (Rrow p) s) (i := i) (by rw [hlR]; exact hlt) acc]
        simp only [stepsF, hA, hR]
    by_cases h0 : 0 < rg p i
    · simp (disch := omega) only [rt14_0, VT.ok, Nd.holds, X.outs, X.ds, X.d, Op1.ev, Op2.ev, takeD_zero, takeD_cons, List.cons_append, List.nil_append, List.getD_cons_zero, List.getD_cons_succ, D.int_i, D.bool_b, D.lst_l, Int.toNat_natCast, List.length_map, implies_true, true_and, F27, R27, ↓reduceIte, dle_t, dlt_t, w64', rowI, encI, hA, hR, hlA, hlR, polD, catP, List.length_append, List.length_cons, List.length_nil]
      exact hN _ rfl
    · simp (disch := omega) only [rt14_0, VT.ok, Nd.holds, X.outs, X.ds, X.d, Op1.ev, Op2.ev, takeD_zero, takeD_cons, List.cons_append, List.nil_append, List.getD_cons_zero, List.getD_cons_succ, D.int_i, D.bool_b, D.lst_l, Int.toNat_natCast, List.length_map, Bool.false_eq_true, implies_true, true_and, F27, R27, ↓reduceIte, dle_t, dlt_t, dlt_f, w64', rowI, encI, hA, hR, hlA, hlR, polD, catP, List.length_append, List.length_cons, List.length_nil]
      refine hN _ ?_
      rw [show rg p i = 0 by omega, Int.zero_mul]
  · have hj : i = p.length := by omega
    subst hj
    simp (disch := omega) only [rt14_0, VT.ok, X.ds, X.d, Op2.ev, List.getD_cons_zero, List.getD_cons_succ, D.int_i, D.bool_b, Bool.false_eq_true, ↓reduceIte, dlt_f]
    refine round_exit (by omega) ?_
    show lp14 [.i s, .l ((Arow p).map encI), .l ((Rrow p).map encI), .i (p.length : Int), .i (p.length : Int), .l (acc.map encP)] = _
    simp only [lp14, dp_enc, map_decP, List.length_map, Int.toNat_natCast, hlR, coll_end]
end Go.Proofs.Ytdehhmcfhaeheaa.rv
