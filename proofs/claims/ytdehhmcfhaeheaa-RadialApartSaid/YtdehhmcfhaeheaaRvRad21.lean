/-
  Radial drawings: law 5.
-/
import Derived.Test.YtdehhmcfhaeheaaRvRad20
namespace Go.Proofs.Ytdehhmcfhaeheaa.rv
open Go.RV

theorem fn21_eq {a b n : Int} (ha : -268435456 ≤ a ∧ a ≤ 268435456) (hb : -268435456 ≤ b ∧ b ≤ 268435456) : fn21 [.i a, .i b, .i n] = [.b (decide (n ≤ a - b) || decide (n ≤ b - a))] := by
  show vt21.val T21 [.i a, .i b, .i n] = _
  simp (disch := omega) only [vt21, VT.val, X.ds, X.d, Op2.ev, List.getD_cons_zero, List.getD_cons_succ, D.int_i, D.bool_b, ite_b, ite_or, w64']
theorem loopM7_1 : LoopMeets Try.prog F (R L7_1.key) L7_1 lb7_1 := by
  refine loop_meets (pre := R) mixed (sgAt_all (P := Try.prog) (pre := R) (Φ := F) (l := sg7) (List.forall_mem_cons.2 ⟨Meets.at (pre := R) (Φ := F) m19, List.forall_mem_cons.2 ⟨Meets.at (pre := R) (Φ := F) m8, List.forall_mem_cons.2 ⟨Meets.at (pre := R) (Φ := F) m17, List.forall_mem_cons.2 ⟨Meets.at (pre := R) (Φ := F) m14, List.forall_mem_cons.2 ⟨Meets.at (pre := R) (Φ := F) m21, (fun _ h => nomatch h)⟩⟩⟩⟩⟩)) (loops_n 0 lk7_1 fun k hk => by omega) L7_1 (fun ρ => ((ρ.getD 3 default).int - (ρ.getD 4 default).int).toNat) le7_1 fun ρ _ hq => ?_
  obtain ⟨s, v, l, i, u, rfl, hf, hi, h64, hu⟩ : pr7b ρ := hq
  by_cases hlt : u < i
  · have hN : RoundOk F (R L7_1.key) (fun ρ => ((ρ.getD 3 default).int - (ρ.getD 4 default).int).toNat) L7_1 [.i s, v, .l (l.map encP), .i (i : Int), .i (u : Int)] [.i (-1), v, .i ((u + 1 : Nat) : Int)] := by
      refine round_next ⟨⟨s, v, l, i, u + 1, rfl, hf, hi, h64, by omega⟩, ?_, rfl⟩
      show ((i : Int) - ((u + 1 : Nat) : Int)).toNat < ((i : Int) - (u : Int)).toNat
      omega
    have b1 := hf.1 _ (getD_mem p0 (by omega : u < l.length))
    have b2 := hf.1 _ (getD_mem p0 hi)
    have hfar := hf.2 i u hlt hi
    have hg : ((!(decide (s ≤ (l.getD u p0).1 - (l.getD i p0).1) || decide (s ≤ (l.getD i p0).1 - (l.getD u p0).1))) && (!(decide (s ≤ (l.getD u p0).2 - (l.getD i p0).2) || decide (s ≤ (l.getD i p0).2 - (l.getD u p0).2)))) = false := by
      rw [Bool.and_eq_false_iff, Bool.not_eq_false', Bool.not_eq_false', Bool.or_eq_true, Bool.or_eq_true]
      simp only [decide_eq_true_eq]
      exact hfar
    simp (disch := omega) only [rt7_1, VT.ok, Nd.holds, X.outs, X.ds, X.d, Op1.ev, Op2.ev, takeD_zero, takeD_cons, List.cons_append, List.nil_append, List.getD_cons_zero, List.getD_cons_succ, D.int_i, D.bool_b, D.lst_l, ite_b, ite_and, Int.toNat_natCast, List.length_map, Bool.false_eq_true, implies_true, true_and, F21, R21, ↓reduceIte, dle_t, dlt_t, w64', rowP, encP, fn21_eq, hg]
    exact hN
  · have hj : u = i := by omega
    subst hj
    simp (disch := omega) only [rt7_1, VT.ok, X.ds, X.d, Op2.ev, List.getD_cons_zero, List.getD_cons_succ, D.int_i, D.bool_b, Bool.false_eq_true, ↓reduceIte, dlt_f]
    exact round_exit (by omega) rfl
theorem loopM7_0 : LoopMeets Try.prog F (R L7_0.key) L7_0 lb7_0 := by
  refine loop_meets (pre := R) mixed (sgAt_all (P := Try.prog) (pre := R) (Φ := F) (l := sg7) (List.forall_mem_cons.2 ⟨Meets.at (pre := R) (Φ := F) m19, List.forall_mem_cons.2 ⟨Meets.at (pre := R) (Φ := F) m8, List.forall_mem_cons.2 ⟨Meets.at (pre := R) (Φ := F) m17, List.forall_mem_cons.2 ⟨Meets.at (pre := R) (Φ := F) m14, List.forall_mem_cons.2 ⟨Meets.at (pre := R) (Φ := F) m21, (fun _ h => nomatch h)⟩⟩⟩⟩⟩)) (loops_n 1 lk7_0 fun k hk => match k, hk with | 0, _ => by rw [li7_0_0]; exact loop_this lf7_1 loopM7_1) L7_0 (fun ρ => (((ρ.getD 2 default).lst.length : Int) - (ρ.getD 3 default).int).toNat) le7_0 fun ρ _ hq => ?_
  obtain ⟨s, v, l, i, rfl, hf, hi, h64⟩ : pr7a ρ := hq
  by_cases hlt : i < l.length
  · have hpre : pr7b [.i s, v, .l (l.map encP), .i (i : Int), .i 0] := ⟨s, v, l, i, 0, rfl, hf, hlt, h64, by omega⟩
    simp (disch := omega) only [rt7_0, VT.ok, Nd.holds, X.outs, X.ds, X.d, Op1.ev, Op2.ev, takeD_zero, takeD_cons, List.cons_append, List.nil_append, List.getD_cons_zero, List.getD_cons_succ, D.int_i, D.bool_b, D.lst_l, List.length_map, Bool.false_eq_true, F10700, R10700, ↓reduceIte, dlt_t, beq_f, w64', lp7b]
    refine ⟨fun _ => hpre, round_next ⟨⟨s, v, l, i + 1, rfl, hf, by omega, h64⟩, ?_, rfl⟩⟩
    show (((l.map encP).length : Int) - ((i + 1 : Nat) : Int)).toNat < (((l.map encP).length : Int) - (i : Int)).toNat
    rw [List.length_map]; omega
  · have hj : i = l.length := by omega
    subst hj
    simp (disch := omega) only [rt7_0, VT.ok, X.ds, X.d, Op1.ev, Op2.ev, List.getD_cons_zero, List.getD_cons_succ, D.int_i, D.bool_b, D.lst_l, List.length_map, Bool.false_eq_true, ↓reduceIte, dlt_f]
    refine round_exit (by omega) ?_
    show lp7a [.i s, v, .l (l.map encP), .i (l.length : Int)] = _
    simp only [lp7a, List.length_map]
theorem law7 : Meets Try.prog 7 S7 (fun _ => True) (fun _ => [.b true]) := by
  refine meets_of_vt (pre := R) (Φ := F) mixed (sgAt_all (P := Try.prog) (pre := R) (Φ := F) (l := sg7) (List.forall_mem_cons.2 ⟨Meets.at (pre := R) (Φ := F) m19, List.forall_mem_cons.2 ⟨Meets.at (pre := R) (Φ := F) m8, List.forall_mem_cons.2 ⟨Meets.at (pre := R) (Φ := F) m17, List.forall_mem_cons.2 ⟨Meets.at (pre := R) (Φ := F) m14, List.forall_mem_cons.2 ⟨Meets.at (pre := R) (Φ := F) m21, (fun _ h => nomatch h)⟩⟩⟩⟩⟩)) Try.func7 b7 n7 (loops_n 2 k7 fun k hk => match k, hk with | 0, _ => loop_this lf7_0 loopM7_0 | 1, _ => loop_this lf7_1 loopM7_1) e7 fun ds hf _ => ?_
  obtain ⟨x0, x1, rfl, f0, f1⟩ := fits2 hf.flat
  obtain ⟨p, rfl, hm, _⟩ := slI f0
  obtain ⟨s, rfl, hs⟩ := wf_i64 f1
  have hl : lPre [.l (p.map encI)] := ⟨p, rfl, hm⟩
  simp only [vt7, VT.ok, Nd.holds, X.outs, X.ds, X.d, Op1.ev, Op2.ev, takeD_zero, takeD_cons, List.cons_append, List.nil_append, List.getD_cons_zero, List.getD_cons_succ, D.int_i, D.bool_b, D.lst_l, ite_b, ite_or, List.length_map, implies_true, true_and, F19, R19, F14, R14, F17, R17, F8, R8, F10701, R10701, okD, dp_enc]
  refine ⟨fun _ => hl, ?_⟩
  by_cases hk : okF p = true ∧ 0 ≤ s ∧ s ≤ 1048576
  · obtain ⟨hk, hs0⟩ := hk
    have hp := okF_iff.1 hk
    have h64 := hp.1
    have hst : 0 ≤ stp p.length s ∧ stp p.length s ≤ 9223372036854775807 := by
      by_cases hn : 1 ≤ (p.length : Int)
      · have := stp_spec (n := p.length) (s := s) (by omega) hs0
        omega
      · rw [stp, if_pos (by omega)]; omega
    have hpl : plPre [.l (p.map encI), .i (stp p.length s)] := ⟨p, _, rfl, hm, by omega⟩
    simp (disch := omega) only [takeD_zero, takeD_cons, List.cons_append, List.nil_append, List.getD_cons_zero, List.getD_cons_succ, D.int_i, D.lst_l, ite_b, ite_and, List.length_map, Bool.false_eq_true, ↓reduceIte, dlt_f, hk, Bool.not_true, Bool.or_self, stpD, placeD, dp_enc, one]
    refine ⟨fun _ => hpl, ?_⟩
    cases ha : anyN (tooFar p (stp p.length s)) p.length
    · have hg : goodS p (stp p.length s) := ⟨hp, hst.1, hst.2, ha⟩
      have hlen : (rowF (pt p (stp p.length s)) p.length).length = p.length := rowF_len
      have hpre : pr7a [.i s, .b false, .l ((rowF (pt p (stp p.length s)) p.length).map encP), .i 0] := ⟨s, _, _, 0, rfl, far_pts hp hs0 hg, by omega, by omega⟩
      simp (disch := omega) only [takeD_zero, takeD_cons, List.cons_append, List.nil_append, List.getD_cons_zero, List.getD_cons_succ, D.int_i, List.length_map, Bool.false_eq_true, and_true, ↓reduceIte, beq_t, beq_f, perr_good hg, pts_good hg, hlen, lp7a, Bool.not_true]
      exact fun _ => hpre
    · have hpe : perr p (stp p.length s) = 2 := by rw [perr, if_pos ⟨hk, hst.1⟩, if_pos ha]
      simp (disch := omega) only [↓reduceIte, beq_t, beq_f, hpe, Bool.not_false, Bool.and_self]
  · have hc : (!okF p || decide (s < 0) || decide (1048576 < s)) = true := by
      cases h : okF p
      · rfl
      · by_cases h1 : s < 0
        · rw [dlt_t h1]; rfl
        · rw [dlt_t (a := 1048576) (by rw [h] at hk; simp at hk; omega), Bool.or_true]
    simp only [takeD_zero, takeD_cons, List.getD_cons_zero, if_true, hc, one]
end Go.Proofs.Ytdehhmcfhaeheaa.rv
