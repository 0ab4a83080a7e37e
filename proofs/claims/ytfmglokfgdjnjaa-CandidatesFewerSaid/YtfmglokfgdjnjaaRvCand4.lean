/-
  Candidates: searches; sizes, paths.
-/
import Derived.Test.YtfmglokfgdjnjaaRvCand3
namespace Go.Proofs.Ytfmglokfgdjnjaa.rv
open Go.RV

theorem m20004 : Meets Try.prog 20004 S20004 (R 20004) (F 20004) := by
  refine meets_dyn (by decide) rfl fun d ds hf hp => ?_
  obtain ⟨n, e⟩ : dynIpre (d :: ds) := hp
  cases e
  exact ⟨37, [], [], S37, _, fn37, rfl, by decide, m37, rfl, rfl, trivial, fn37_eq n⟩
theorem m20046 : Meets Try.prog 20046 S20046 (R 20046) (F 20046) := by
  refine meets_dyn (by decide) rfl fun d ds hf hp => ?_
  obtain ⟨x, y, e⟩ : dynPpre (d :: ds) := hp
  cases e
  exact ⟨45, [], [], S45, _, fn45, rfl, by decide, m45, rfl, rfl, trivial, fn45_eq x y⟩
theorem m20024 : Meets Try.prog 20024 S20024 (R 20024) (F 20024) := by
  refine meets_dyn (by decide) rfl fun d ds hf hp => ?_
  obtain ⟨b, q, e⟩ : dynQpre (d :: ds) := hp
  cases e
  exact ⟨31, ctQ, [.p (encQ b)], S31, _, fn31, rfl, by decide, m31, rfl, rfl, trivial, fn31_eq b q⟩

theorem loopM43_0 : LoopMeets Try.prog F (R L43_0.key) L43_0 lb43_0 := by
  refine loop_meets (pre := R) mixed (sgAt_all (P := Try.prog) (pre := R) (Φ := F) (l := sg43) (List.forall_mem_cons.2 ⟨Meets.at (pre := R) (Φ := F) m20004, (fun _ h => nomatch h)⟩)) (loops_n 0 lk43_0 fun k hk => by omega) L43_0 (fun ρ => ((ρ.getD 3 default).int - (ρ.getD 4 default).int).toNat) le43_0 fun ρ _ hp => ?_
  obtain ⟨v, l, j, rfl, hj, hm⟩ : pr43 ρ := hp
  rw [maxLen_val] at hm
  by_cases hlt : j < l.length
  · simp (disch := omega) only [rt43_0, VT.ok, Nd.holds, X.outs, X.ds, X.d, Op1.ev, Op2.ev, takeD_zero, takeD_cons, List.cons_append, List.nil_append, List.getD_cons_zero, List.getD_cons_succ, D.int_i, D.bool_b, D.lst_l, Int.toNat_natCast, List.length_map, implies_true, true_and, F20004, R20004, ↓reduceIte, dle_t, dlt_t, w64', rowI, encI, dynI]
    refine ⟨fun _ => ⟨_, rfl⟩, ?_⟩
    cases hb : badS (l.getD j 0)
    · simp only [Bool.false_eq_true, if_false]
      refine round_next ⟨⟨v, l, j + 1, rfl, by omega, hm⟩, ?_, ?_⟩
      · show ((l.length : Int) - ((j + 1 : Nat) : Int)).toNat < ((l.length : Int) - (j : Int)).toNat
        omega
      · show lp43 [.l (l.map encI), .c 37 [] [], v, .i (l.length : Int), .i ((j + 1 : Nat) : Int)] = lp43 [.l (l.map encI), .c 37 [] [], v, .i (l.length : Int), .i (j : Int)]
        simp only [lp43, map_decI, List.length_map, Int.toNat_natCast]
        exact scan_next hlt hb
    · simp only [if_true]
      refine round_exit (by omega) ?_
      show lp43 [.l (l.map encI), .c 37 [] [], v, .i (l.length : Int), .i (j : Int)] = [.i 0, .i (j : Int), .i (j : Int)]
      simp only [lp43, map_decI, List.length_map, Int.toNat_natCast]
      exact scan_hit hlt hb
  · have hj : j = l.length := by omega
    subst hj
    simp (disch := omega) only [rt43_0, VT.ok, X.ds, X.d, Op2.ev, List.getD_cons_zero, List.getD_cons_succ, D.int_i, D.bool_b, Bool.false_eq_true, ↓reduceIte, dlt_f]
    refine round_exit (by omega) ?_
    show lp43 [.l (l.map encI), .c 37 [] [], v, .i (l.length : Int), .i (l.length : Int)] = _
    simp only [lp43, map_decI, List.length_map, Int.toNat_natCast]
    exact scan_end
theorem m43 : Meets Try.prog 43 S43 (R 43) (F 43) := by
  refine meets_of_vt (pre := R) (Φ := F) mixed (sgAt_all (P := Try.prog) (pre := R) (Φ := F) (l := sg43) (List.forall_mem_cons.2 ⟨Meets.at (pre := R) (Φ := F) m20004, (fun _ h => nomatch h)⟩)) Try.func43 b43 n43 (loops_n 1 k43 fun k hk => match k, hk with | 0, _ => loop_this lf43_0 loopM43_0) e43 fun ds _ hp => ?_
  obtain ⟨l, rfl, hm⟩ : clI ds := hp
  have hpre : pr43 [.l (l.map encI), .c 37 [] [], .i 0, .i ((l.length : Nat) : Int), .i 0] := ⟨.i 0, l, 0, rfl, by omega, hm⟩
  simp only [vt43, VT.ok, Nd.holds, X.outs, X.ds, X.d, Op1.ev, Op2.ev, List.cons_append, List.nil_append, List.getD_cons_zero, List.getD_cons_succ, D.int_i, D.bool_b, D.lst_l, List.length_map, F43, F14300, R14300]
  refine ⟨fun _ => hpre, ?_⟩
  simp only [lp43, ix43, map_decI, List.length_map, ixL, ixD, Int.toNat_zero, Nat.sub_zero]
  rcases scan_two (p := badSs l) l.length with ⟨_, j, _, _, _, h⟩ | ⟨_, h⟩ <;> (simp only [h]; first | rfl | exact trivial)
theorem m36 : Meets Try.prog 36 S36 (R 36) (F 36) := by
  refine meets_of_vt (pre := R) (Φ := F) mixed (sgAt_all (P := Try.prog) (pre := R) (Φ := F) (l := sg36) (List.forall_mem_cons.2 ⟨Meets.at (pre := R) (Φ := F) m43, (fun _ h => nomatch h)⟩)) Try.func36 b36 n36 (loops_n 0 k36 fun k hk => by omega) e36 fun ds _ hp => ?_
  obtain ⟨l, rfl, hm⟩ : clI ds := hp
  simp only [vt36, VT.ok, Nd.holds, X.outs, X.ds, X.d, Op2.ev, List.cons_append, List.nil_append, List.getD_cons_zero, List.getD_cons_succ, D.int_i, D.bool_b, F36, F43, R43]
  refine ⟨fun _ => ⟨l, rfl, hm⟩, ?_⟩
  simp only [ix43, cf36, map_decI, List.length_map, ixD]
  rcases scan_two (p := badSs l) l.length with ⟨h1, j, _, _, _, h⟩ | ⟨h1, h⟩ <;> simp (disch := omega) only [h, h1, takeD_zero, takeD_cons, List.getD_cons_zero, D.int_i, dle_t, dle_f]
theorem m22 : Meets Try.prog 22 S22 (R 22) (F 22) := by
  refine meets_of_vt (pre := R) (Φ := F) mixed (sgAt_all (P := Try.prog) (pre := R) (Φ := F) (l := sg22) (List.forall_mem_cons.2 ⟨Meets.at (pre := R) (Φ := F) m36, (fun _ h => nomatch h)⟩)) Try.func22 b22 n22 (loops_n 0 k22 fun k hk => by omega) e22 fun ds _ hp => ?_
  obtain ⟨l, rfl, hm⟩ : szPre ds := hp
  simp only [vt22, VT.ok, Nd.holds, X.outs, X.ds, X.d, Op1.ev, List.cons_append, List.nil_append, List.getD_cons_zero, List.getD_cons_succ, D.bool_b, F22, F36, R36]
  exact ⟨fun _ => ⟨l, rfl, hm⟩, rfl⟩

theorem loopM46_0 : LoopMeets Try.prog F (R L46_0.key) L46_0 lb46_0 := by
  refine loop_meets (pre := R) mixed (sgAt_all (P := Try.prog) (pre := R) (Φ := F) (l := sg46) (List.forall_mem_cons.2 ⟨Meets.at (pre := R) (Φ := F) m20046, (fun _ h => nomatch h)⟩)) (loops_n 0 lk46_0 fun k hk => by omega) L46_0 (fun ρ => ((ρ.getD 3 default).int - (ρ.getD 4 default).int).toNat) le46_0 fun ρ _ hp => ?_
  obtain ⟨v, l, j, rfl, hj, hm⟩ : pr46 ρ := hp
  rw [maxLen_val] at hm
  by_cases hlt : j < l.length
  · simp (disch := omega) only [rt46_0, VT.ok, Nd.holds, X.outs, X.ds, X.d, Op1.ev, Op2.ev, takeD_zero, takeD_cons, List.cons_append, List.nil_append, List.getD_cons_zero, List.getD_cons_succ, D.int_i, D.bool_b, D.lst_l, Int.toNat_natCast, List.length_map, implies_true, true_and, F20046, R20046, ↓reduceIte, dle_t, dlt_t, w64', rowP, encP, dynP]
    refine ⟨fun _ => ⟨_, _, rfl⟩, ?_⟩
    cases hb : pv (l.getD j p0).1 (l.getD j p0).2
    · simp only [Bool.not_false, if_true]
      refine round_exit (by omega) ?_
      show lp46 [.l (l.map encP), .c 45 [] [], v, .i (l.length : Int), .i (j : Int)] = [.i 0, .i (j : Int), .i (j : Int)]
      simp only [lp46, map_decP, List.length_map, Int.toNat_natCast]
      exact scan_hit hlt (by simp only [badPt, hb, Bool.not_false])
    · simp only [Bool.not_true, Bool.false_eq_true, if_false]
      refine round_next ⟨⟨v, l, j + 1, rfl, by omega, hm⟩, ?_, ?_⟩
      · show ((l.length : Int) - ((j + 1 : Nat) : Int)).toNat < ((l.length : Int) - (j : Int)).toNat
        omega
      · show lp46 [.l (l.map encP), .c 45 [] [], v, .i (l.length : Int), .i ((j + 1 : Nat) : Int)] = lp46 [.l (l.map encP), .c 45 [] [], v, .i (l.length : Int), .i (j : Int)]
        simp only [lp46, map_decP, List.length_map, Int.toNat_natCast]
        exact scan_next hlt (by simp only [badPt, hb, Bool.not_true])
  · have hj : j = l.length := by omega
    subst hj
    simp (disch := omega) only [rt46_0, VT.ok, X.ds, X.d, Op2.ev, List.getD_cons_zero, List.getD_cons_succ, D.int_i, D.bool_b, Bool.false_eq_true, ↓reduceIte, dlt_f]
    refine round_exit (by omega) ?_
    show lp46 [.l (l.map encP), .c 45 [] [], v, .i (l.length : Int), .i (l.length : Int)] = _
    simp only [lp46, map_decP, List.length_map, Int.toNat_natCast]
    exact scan_end
theorem m46 : Meets Try.prog 46 S46 (R 46) (F 46) := by
  refine meets_of_vt (pre := R) (Φ := F) mixed (sgAt_all (P := Try.prog) (pre := R) (Φ := F) (l := sg46) (List.forall_mem_cons.2 ⟨Meets.at (pre := R) (Φ := F) m20046, (fun _ h => nomatch h)⟩)) Try.func46 b46 n46 (loops_n 1 k46 fun k hk => match k, hk with | 0, _ => loop_this lf46_0 loopM46_0) e46 fun ds _ hp => ?_
  obtain ⟨l, rfl, hm⟩ : clP ds := hp
  have hpre : pr46 [.l (l.map encP), .c 45 [] [], .i 0, .i ((l.length : Nat) : Int), .i 0] := ⟨.i 0, l, 0, rfl, by omega, hm⟩
  simp only [vt46, VT.ok, Nd.holds, X.outs, X.ds, X.d, Op1.ev, Op2.ev, List.cons_append, List.nil_append, List.getD_cons_zero, List.getD_cons_succ, D.int_i, D.bool_b, D.lst_l, List.length_map, F46, F14600, R14600]
  refine ⟨fun _ => hpre, ?_⟩
  simp only [lp46, ix46, map_decP, List.length_map, ixL, ixD, Int.toNat_zero, Nat.sub_zero]
  rcases scan_two (p := badPt l) l.length with ⟨_, j, _, _, _, h⟩ | ⟨_, h⟩ <;> (simp only [h]; first | rfl | exact trivial)
theorem m44 : Meets Try.prog 44 S44 (R 44) (F 44) := by
  refine meets_of_vt (pre := R) (Φ := F) mixed (sgAt_all (P := Try.prog) (pre := R) (Φ := F) (l := sg44) (List.forall_mem_cons.2 ⟨Meets.at (pre := R) (Φ := F) m46, (fun _ h => nomatch h)⟩)) Try.func44 b44 n44 (loops_n 0 k44 fun k hk => by omega) e44 fun ds _ hp => ?_
  obtain ⟨l, rfl, hm⟩ : clP ds := hp
  simp only [vt44, VT.ok, Nd.holds, X.outs, X.ds, X.d, Op2.ev, List.cons_append, List.nil_append, List.getD_cons_zero, List.getD_cons_succ, D.int_i, D.bool_b, F44, F46, R46]
  refine ⟨fun _ => ⟨l, rfl, hm⟩, ?_⟩
  simp only [ix46, cf44, map_decP, List.length_map, ixD]
  rcases scan_two (p := badPt l) l.length with ⟨h1, j, _, _, _, h⟩ | ⟨h1, h⟩ <;> simp (disch := omega) only [h, h1, takeD_zero, takeD_cons, List.getD_cons_zero, D.int_i, dle_t, dle_f]
theorem m41 : Meets Try.prog 41 S41 (R 41) (F 41) := by
  refine meets_of_vt (pre := R) (Φ := F) mixed (sgAt_all (P := Try.prog) (pre := R) (Φ := F) (l := sg41) (List.forall_mem_cons.2 ⟨Meets.at (pre := R) (Φ := F) m44, (fun _ h => nomatch h)⟩)) Try.func41 b41 n41 (loops_n 0 k41 fun k hk => by omega) e41 fun ds _ hp => ?_
  obtain ⟨l, rfl, hm⟩ : pathPre ds := hp
  simp only [vt41, VT.ok, Nd.holds, X.outs, X.ds, X.d, Op1.ev, Op2.ev, List.cons_append, List.nil_append, List.getD_cons_zero, List.getD_cons_succ, D.int_i, D.bool_b, D.lst_l, ite_b, ite_and, List.length_map, F44, R44, F41]
  refine ⟨fun _ => ⟨l, rfl, hm⟩, ?_⟩
  simp only [cf44, ptsD, map_decP, List.length_map, takeD_zero, takeD_cons, List.getD_cons_zero, D.bool_b, List.length_map, ptsOk]

theorem loopM42_0 : LoopMeets Try.prog F (R L42_0.key) L42_0 lb42_0 := by
  refine loop_meets (pre := R) mixed (sgAt_all (P := Try.prog) (pre := R) (Φ := F) (l := sg42) (List.forall_mem_cons.2 ⟨Meets.at (pre := R) (Φ := F) m20024, (fun _ h => nomatch h)⟩)) (loops_n 0 lk42_0 fun k hk => by omega) L42_0 (fun ρ => ((ρ.getD 3 default).int - (ρ.getD 4 default).int).toNat) le42_0 fun ρ _ hp => ?_
  obtain ⟨v, b, l, j, rfl, hj, hm⟩ : pr42 ρ := hp
  rw [maxLen_val] at hm
  by_cases hlt : j < l.length
  · simp (disch := omega) only [rt42_0, VT.ok, Nd.holds, X.outs, X.ds, X.d, Op1.ev, Op2.ev, List.cons_append, List.nil_append, List.getD_cons_zero, List.getD_cons_succ, D.int_i, D.bool_b, D.lst_l, Int.toNat_natCast, List.length_map, implies_true, true_and, F20024, R20024, ↓reduceIte, dle_t, dlt_t, w64', rowQ, encQ]
    refine ⟨fun _ => ⟨b, l.getD j q0, rfl⟩, ?_⟩
    have e : dynQ [.c 31 ctQ [.p (encQ b)], .i (l.getD j q0).1, .i (l.getD j q0).2.1, .i (l.getD j q0).2.2.1, .i (l.getD j q0).2.2.2] = [.b (hitsD (encQ b) l j)] := rfl
    simp only [encQ] at e
    simp only [e, takeD_zero, takeD_cons, List.getD_cons_zero, D.bool_b]
    cases hb : hitsD (encQ b) l j
    · simp only [encQ] at hb
      simp only [hb, Bool.false_eq_true, if_false]
      refine round_next ⟨⟨v, b, l, j + 1, rfl, by omega, hm⟩, ?_, ?_⟩
      · show ((l.length : Int) - ((j + 1 : Nat) : Int)).toNat < ((l.length : Int) - (j : Int)).toNat
        omega
      · show lp42 [.l (l.map encQ), .c 31 ctQ [.p (encQ b)], v, .i (l.length : Int), .i ((j + 1 : Nat) : Int)] = lp42 [.l (l.map encQ), .c 31 ctQ [.p (encQ b)], v, .i (l.length : Int), .i (j : Int)]
        simp only [lp42, map_decQ, List.length_map, Int.toNat_natCast]
        exact scan_next hlt hb
    · simp only [encQ] at hb
      simp only [hb, if_true]
      refine round_exit (by omega) ?_
      show lp42 [.l (l.map encQ), .c 31 ctQ [.p (encQ b)], v, .i (l.length : Int), .i (j : Int)] = [.i 0, .i (j : Int), .i (j : Int)]
      simp only [lp42, map_decQ, List.length_map, Int.toNat_natCast]
      exact scan_hit hlt hb
  · have hj : j = l.length := by omega
    subst hj
    simp (disch := omega) only [rt42_0, VT.ok, X.ds, X.d, Op2.ev, List.getD_cons_zero, List.getD_cons_succ, D.int_i, D.bool_b, Bool.false_eq_true, ↓reduceIte, dlt_f]
    refine round_exit (by omega) ?_
    show lp42 [.l (l.map encQ), .c 31 ctQ [.p (encQ b)], v, .i (l.length : Int), .i (l.length : Int)] = _
    simp only [lp42, map_decQ, List.length_map, Int.toNat_natCast]
    exact scan_end
theorem m42 : Meets Try.prog 42 S42 (R 42) (F 42) := by
  refine meets_of_vt (pre := R) (Φ := F) mixed (sgAt_all (P := Try.prog) (pre := R) (Φ := F) (l := sg42) (List.forall_mem_cons.2 ⟨Meets.at (pre := R) (Φ := F) m20024, (fun _ h => nomatch h)⟩)) Try.func42 b42 n42 (loops_n 1 k42 fun k hk => match k, hk with | 0, _ => loop_this lf42_0 loopM42_0) e42 fun ds _ hp => ?_
  obtain ⟨b, l, rfl, hm⟩ : clQ ds := hp
  have hpre : pr42 [.l (l.map encQ), .c 31 ctQ [.p (encQ b)], .i 0, .i ((l.length : Nat) : Int), .i 0] := ⟨.i 0, b, l, 0, rfl, by omega, hm⟩
  simp only [vt42, VT.ok, Nd.holds, X.outs, X.ds, X.d, Op1.ev, Op2.ev, List.cons_append, List.nil_append, List.getD_cons_zero, List.getD_cons_succ, D.int_i, D.bool_b, D.lst_l, List.length_map, F42, F14200, R14200]
  refine ⟨fun _ => hpre, ?_⟩
  simp only [lp42, ix42, map_decQ, List.length_map, ixL, ixD, Int.toNat_zero, Nat.sub_zero]
  rcases scan_two (p := hitsD (encQ b) l) l.length with ⟨_, j, _, _, _, h⟩ | ⟨_, h⟩ <;> (simp only [h]; first | rfl | exact trivial)
theorem m30 : Meets Try.prog 30 S30 (R 30) (F 30) := by
  refine meets_of_vt (pre := R) (Φ := F) mixed (sgAt_all (P := Try.prog) (pre := R) (Φ := F) (l := sg30) (List.forall_mem_cons.2 ⟨Meets.at (pre := R) (Φ := F) m42, (fun _ h => nomatch h)⟩)) Try.func30 b30 n30 (loops_n 0 k30 fun k hk => by omega) e30 fun ds _ hp => ?_
  obtain ⟨b, l, rfl, hm⟩ : clQ ds := hp
  simp only [vt30, VT.ok, Nd.holds, X.outs, X.ds, X.d, Op2.ev, List.cons_append, List.nil_append, List.getD_cons_zero, List.getD_cons_succ, D.int_i, D.bool_b, F30, F42, R42]
  refine ⟨fun _ => ⟨b, l, rfl, hm⟩, ?_⟩
  simp only [ix42, cf30, map_decQ, List.length_map, ixD]
  rcases scan_two (p := hitsD (encQ b) l) l.length with ⟨h1, j, _, _, _, h⟩ | ⟨h1, h⟩ <;> simp (disch := omega) only [h, h1, takeD_zero, takeD_cons, List.getD_cons_zero, D.int_i, dle_t, dle_f]
end Go.Proofs.Ytfmglokfgdjnjaa.rv
