/-
  Radial drawings: the reference's angles; steps; equal lists.
-/
import Derived.Test.YtdehhmcfhaeheaaRvRad11
namespace Go.Proofs.Ytdehhmcfhaeheaa.rv
open Go.RV

theorem coll_one {α : Type} (g : Nat → α) (n : Nat) : collN (fun j => [g j]) n 0 = rowF g n := by
  have : ∀ l : List Nat, l.flatMap (fun j => [g j]) = l.map g := fun l => by
    induction l with
    | nil => rfl
    | cons a l ih => rw [List.flatMap_cons, ih]; rfl
  exact this _
theorem loopM10_0 : LoopMeets Try.prog F (R L10_0.key) L10_0 lb10_0 := by
  refine loop_meets (pre := R) mixed (sgAt_all (P := Try.prog) (pre := R) (Φ := F) (l := sg10) (List.forall_mem_cons.2 ⟨Meets.at (pre := R) (Φ := F) m19, List.forall_mem_cons.2 ⟨Meets.at (pre := R) (Φ := F) m24, (fun _ h => nomatch h)⟩⟩)) (loops_n 0 lk10_0 fun k hk => by omega) L10_0 (fun ρ => (((ρ.getD 0 default).lst.length : Int) - (ρ.getD 1 default).int).toNat) le10_0 fun ρ _ hq => ?_
  obtain ⟨w, i, acc, rfl, ⟨h64, hw⟩, hi, ha⟩ : pr10 ρ := hq
  by_cases hlt : i < w.length
  · have hq := hw _ (getD_mem p0 hlt)
    simp (disch := omega) only [rt10_0, VT.ok, Nd.holds, X.ds, X.d, Op1.ev, Op2.ev, List.getD_cons_zero, List.getD_cons_succ, D.int_i, D.bool_b, D.lst_l, Int.toNat_natCast, List.length_map, implies_true, true_and, ↓reduceIte, dle_t, dlt_t, w64', rowP, encP, tdivp, catI, List.length_append, List.length_cons, List.length_nil]
    refine round_next ⟨⟨w, i + 1, _, rfl, ⟨h64, hw⟩, by omega, by simp [ha]⟩, ?_, ?_⟩
    · show (((w.map encP).length : Int) - ((i + 1 : Nat) : Int)).toNat < (((w.map encP).length : Int) - (i : Int)).toNat
      rw [List.length_map]; omega
    · show lp10 [.l (w.map encP), .i ((i + 1 : Nat) : Int), .l ((acc ++ [(w.getD i p0).1 + ((w.getD i p0).2 - (w.getD i p0).1) / 2]).map encI)] = lp10 [.l (w.map encP), .i (i : Int), .l (acc.map encI)]
      simp only [lp10, map_decP, map_decI, List.length_map, Int.toNat_natCast]
      rw [coll_next (f := fun j => [(w.getD j p0).1 + ((w.getD j p0).2 - (w.getD j p0).1) / 2]) hlt acc]
  · have hj : i = w.length := by omega
    subst hj
    simp (disch := omega) only [rt10_0, VT.ok, X.ds, X.d, Op1.ev, Op2.ev, List.getD_cons_zero, List.getD_cons_succ, D.int_i, D.bool_b, D.lst_l, List.length_map, Bool.false_eq_true, ↓reduceIte, dlt_f]
    refine round_exit (by omega) ?_
    show lp10 [.l (w.map encP), .i (w.length : Int), .l (acc.map encI)] = _
    simp only [lp10, map_decP, map_decI, List.length_map, Int.toNat_natCast, coll_end]
theorem ft_ang {p : List Int} : collN (fun j => [((rowF (ft p) p.length).getD j p0).1 + (((rowF (ft p) p.length).getD j p0).2 - ((rowF (ft p) p.length).getD j p0).1) / 2]) p.length 0 = Arow p := by
  rw [coll_one]
  refine rowF_congr fun v hv => ?_
  rw [rowF_get p0 hv, ft, ang]
  simp only
  omega
theorem m10 : Meets Try.prog 10 S10 (R 10) (F 10) := by
  refine meets_of_vt (pre := R) (Φ := F) mixed (sgAt_all (P := Try.prog) (pre := R) (Φ := F) (l := sg10) (List.forall_mem_cons.2 ⟨Meets.at (pre := R) (Φ := F) m19, List.forall_mem_cons.2 ⟨Meets.at (pre := R) (Φ := F) m24, (fun _ h => nomatch h)⟩⟩)) Try.func10 b10 n10 (loops_n 1 k10 fun k hk => match k, hk with | 0, _ => loop_this lf10_0 loopM10_0) e10 fun ds _ hq => ?_
  obtain ⟨p, rfl, hm⟩ : lPre ds := hq
  have hp : lPre [.l (p.map encI)] := ⟨p, rfl, hm⟩
  simp only [vt10, VT.ok, Nd.holds, X.outs, X.ds, X.d, Op1.ev, takeD_zero, takeD_cons, List.cons_append, List.nil_append, List.getD_cons_zero, List.getD_cons_succ, D.bool_b, F19, R19, F10, F11000, R11000, F24, R24, okD, dp_enc, angD]
  refine ⟨fun _ => hp, ?_⟩
  cases hk : okF p
  · rfl
  · have hf := okF_iff.1 hk
    have h64 := hf.1
    have h1 : fPre [.l (p.map encI)] := ⟨p, rfl, hf⟩
    have hlen : (rowF (ft p) p.length).length = p.length := rowF_len
    have h2 : pr10 [.l ((rowF (ft p) p.length).map encP), .i 0, .l []] := ⟨_, 0, [], rfl, ⟨by omega, fun q hq => by
      obtain ⟨v, hv, rfl⟩ := List.mem_map.1 hq
      have hv : v < p.length := by simpa using hv
      have := W_ok hf (q := 0) (by omega) (by omega) _ v (Nat.le_refl _) hv
      simp only [ft]; omega⟩, by omega, rfl⟩
    simp (disch := omega) only [takeD_zero, takeD_cons, List.cons_append, List.nil_append, List.getD_cons_zero, List.getD_cons_succ, List.length_map, Bool.false_eq_true, ↓reduceIte, Bool.not_true, wedgesD, dp_enc]
    refine ⟨fun _ => h1, fun _ => h2, ?_⟩
    simp only [lp10, map_decP, List.length_map, List.map_nil, List.nil_append, Int.toNat_zero, hlen, ft_ang]
    rfl

/-! ### steps -/
theorem stp_vt (n s : Int) (hn : -9223372036854775808 ≤ n ∧ n ≤ 9223372036854775807) : vt17.ok F [.i n, .i s] R (fun out => out = [.i (stp n s)]) := by
  by_cases h : n < 1 ∨ 64 < n ∨ s < 0 ∨ 1048576 < s
  · have hc : (((decide (n < 1) || decide (64 < n)) || decide (s < 0)) || decide (1048576 < s)) = true := by
      simp only [Bool.or_eq_true, decide_eq_true_eq]; omega
    simp (disch := omega) only [vt17, VT.ok, X.ds, X.d, Op2.ev, List.getD_cons_zero, List.getD_cons_succ, D.int_i, D.bool_b, ite_b, ite_or, ↓reduceIte, hc, stp, if_pos h]
  · have h1 : 5 ≤ 360 / n := Int.le_ediv_of_mul_le (by omega) (by omega)
    have h2 : 360 / n ≤ 360 := Int.ediv_le_self _ (by omega)
    have hm : 5 ≤ min 60 (360 / n) ∧ min 60 (360 / n) ≤ 60 := by omega
    have hx : 0 ≤ 60 * ((3 * s + 1) / 2 + 256) + min 60 (360 / n) - 1 ∧ 60 * ((3 * s + 1) / 2 + 256) + min 60 (360 / n) - 1 ≤ 200000000 := by omega
    have hd := Int.ediv_nonneg (b := min 60 (360 / n)) hx.1 (by omega)
    have hd2 := Int.ediv_le_self (min 60 (360 / n)) hx.1
    simp (disch := omega) only [vt17, VT.ok, Nd.holds, X.ds, X.d, Op1.ev, Op2.ev, List.getD_cons_zero, List.getD_cons_succ, D.int_i, D.bool_b, imin, Bool.false_eq_true, implies_true, and_true, ↓reduceIte, dlt_f, beq_f, w64', stp, if_neg h, tdivp, Bool.not_false]
theorem m17 : Meets Try.prog 17 S17 (R 17) (F 17) := by
  refine meets_of_vt (pre := R) (Φ := F) mixed (sgAt_all (P := Try.prog) (pre := R) (Φ := F) (l := sg17) ((fun _ h => nomatch h))) Try.func17 b17 n17 (loops_n 0 k17 fun k hk => by omega) e17 fun ds hf _ => ?_
  obtain ⟨x, y, rfl, fx, fy⟩ := fits2 hf.flat
  obtain ⟨n, rfl, hn⟩ := wf_i64 fx
  obtain ⟨s, rfl, _⟩ := wf_i64 fy
  exact stp_vt n s hn
theorem m18 : Meets Try.prog 18 S18 (R 18) (F 18) := by
  refine meets_of_vt (pre := R) (Φ := F) mixed (sgAt_all (P := Try.prog) (pre := R) (Φ := F) (l := sg18) ((fun _ h => nomatch h))) Try.func18 b18 n18 (loops_n 0 k18 fun k hk => by omega) e18 fun ds hf _ => ?_
  obtain ⟨x, y, rfl, fx, fy⟩ := fits2 hf.flat
  obtain ⟨n, rfl, hn⟩ := wf_i64 fx
  obtain ⟨s, rfl, _⟩ := wf_i64 fy
  exact stp_vt n s hn

/-! ### equal lists -/
theorem loopM16_0 : LoopMeets Try.prog F (R L16_0.key) L16_0 lb16_0 := by
  refine loop_meets (pre := R) mixed (sgAt_all (P := Try.prog) (pre := R) (Φ := F) (l := sg16) ((fun _ h => nomatch h))) (loops_n 0 lk16_0 fun k hk => by omega) L16_0 (fun ρ => (((ρ.getD 0 default).lst.length : Int) - (ρ.getD 3 default).int).toNat) le16_0 fun ρ _ hp => ?_
  obtain ⟨l, v, j, rfl, hj, hm⟩ : pr16 ρ := hp
  rw [maxLen_val] at hm
  by_cases hlt : j < l.length
  · simp (disch := omega) only [rt16_0, VT.ok, Nd.holds, X.ds, X.d, Op1.ev, Op2.ev, List.getD_cons_zero, List.getD_cons_succ, D.int_i, D.bool_b, D.lst_l, Int.toNat_natCast, List.length_map, Bool.false_eq_true, implies_true, true_and, ↓reduceIte, dle_t, dlt_t, beq_t, w64', rowP, encP, Bool.not_true]
    refine round_next ⟨⟨l, v, j + 1, rfl, by omega, hm⟩, ?_, rfl⟩
    show (((l.map encP).length : Int) - ((j + 1 : Nat) : Int)).toNat < (((l.map encP).length : Int) - (j : Int)).toNat
    rw [List.length_map]; omega
  · have hj : j = l.length := by omega
    subst hj
    simp (disch := omega) only [rt16_0, VT.ok, X.ds, X.d, Op1.ev, Op2.ev, List.getD_cons_zero, List.getD_cons_succ, D.int_i, D.bool_b, D.lst_l, List.length_map, Bool.false_eq_true, ↓reduceIte, dlt_f]
    refine round_exit (by omega) ?_
    show lpEq [.l (l.map encP), .l (l.map encP), v, .i (l.length : Int)] = _
    simp only [lpEq, List.length_map]
theorem m16 : Meets Try.prog 16 S16 (R 16) (F 16) := by
  refine meets_of_vt (pre := R) (Φ := F) mixed (sgAt_all (P := Try.prog) (pre := R) (Φ := F) (l := sg16) ((fun _ h => nomatch h))) Try.func16 b16 n16 (loops_n 1 k16 fun k hk => match k, hk with | 0, _ => loop_this lf16_0 loopM16_0) e16 fun ds _ hp => ?_
  obtain ⟨l, rfl, hm⟩ : sameP ds := hp
  simp (disch := omega) only [vt16, VT.ok, Nd.holds, X.outs, X.ds, X.d, Op1.ev, Op2.ev, List.cons_append, List.nil_append, List.getD_cons_zero, List.getD_cons_succ, D.int_i, D.bool_b, D.lst_l, List.length_map, Bool.false_eq_true, F16, F11600, R11600, ↓reduceIte, beq_t, Bool.not_true]
  refine ⟨fun _ => ⟨l, .b false, 0, rfl, by omega, hm⟩, ?_⟩
  rfl
theorem loopM11_0 : LoopMeets Try.prog F (R L11_0.key) L11_0 lb11_0 := by
  refine loop_meets (pre := R) mixed (sgAt_all (P := Try.prog) (pre := R) (Φ := F) (l := sg11) ((fun _ h => nomatch h))) (loops_n 0 lk11_0 fun k hk => by omega) L11_0 (fun ρ => (((ρ.getD 0 default).lst.length : Int) - (ρ.getD 3 default).int).toNat) le11_0 fun ρ _ hp => ?_
  obtain ⟨l, v, j, rfl, hj, hm⟩ : pr11 ρ := hp
  rw [maxLen_val] at hm
  by_cases hlt : j < l.length
  · simp (disch := omega) only [rt11_0, VT.ok, Nd.holds, X.ds, X.d, Op1.ev, Op2.ev, List.getD_cons_zero, List.getD_cons_succ, D.int_i, D.bool_b, D.lst_l, Int.toNat_natCast, List.length_map, Bool.false_eq_true, implies_true, true_and, ↓reduceIte, dle_t, dlt_t, beq_t, w64', rowI, encI, Bool.not_true]
    refine round_next ⟨⟨l, v, j + 1, rfl, by omega, hm⟩, ?_, rfl⟩
    show (((l.map encI).length : Int) - ((j + 1 : Nat) : Int)).toNat < (((l.map encI).length : Int) - (j : Int)).toNat
    rw [List.length_map]; omega
  · have hj : j = l.length := by omega
    subst hj
    simp (disch := omega) only [rt11_0, VT.ok, X.ds, X.d, Op1.ev, Op2.ev, List.getD_cons_zero, List.getD_cons_succ, D.int_i, D.bool_b, D.lst_l, List.length_map, Bool.false_eq_true, ↓reduceIte, dlt_f]
    refine round_exit (by omega) ?_
    show lpEq [.l (l.map encI), .l (l.map encI), v, .i (l.length : Int)] = _
    simp only [lpEq, List.length_map]
theorem m11 : Meets Try.prog 11 S11 (R 11) (F 11) := by
  refine meets_of_vt (pre := R) (Φ := F) mixed (sgAt_all (P := Try.prog) (pre := R) (Φ := F) (l := sg11) ((fun _ h => nomatch h))) Try.func11 b11 n11 (loops_n 1 k11 fun k hk => match k, hk with | 0, _ => loop_this lf11_0 loopM11_0) e11 fun ds _ hp => ?_
  obtain ⟨l, rfl, hm⟩ : sameI ds := hp
  simp (disch := omega) only [vt11, VT.ok, Nd.holds, X.outs, X.ds, X.d, Op1.ev, Op2.ev, List.cons_append, List.nil_append, List.getD_cons_zero, List.getD_cons_succ, D.int_i, D.bool_b, D.lst_l, List.length_map, Bool.false_eq_true, F11, F11100, R11100, ↓reduceIte, beq_t, Bool.not_true]
  refine ⟨fun _ => ⟨l, .b false, 0, rfl, by omega, hm⟩, ?_⟩
  rfl
end Go.Proofs.Ytdehhmcfhaeheaa.rv
