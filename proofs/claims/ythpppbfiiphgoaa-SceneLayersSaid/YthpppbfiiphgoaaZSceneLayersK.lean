/-
  Graphs: clusters around a cluster; clusters; edges.; Graphs: what is valid.; Graphs: members, depths, common clusters.; Few items, equal scenes: the walks.; Moved scenes: the walks.; Clusters by depth: the sort of Go's library on short lists.; Scenes of drawings: the loops.
-/
import Derived.Test.YthpppbfiiphgoaaZSceneLayersJ
namespace Go.Proofs.Ythpppbfiiphgoaa.rv
set_option maxRecDepth 10000
open Go.RV
theorem up_fuel {C : List (List D)} : ∀ (f f' : Nat) (c : Int), c < f → c < f' → okC C (c + 1).toNat → up C f c = up C f' c
  | 0, 0, _, _, _, _ => rfl
  | 0, f' + 1, c, h, _, _ => by simp only [up]; rw [if_neg (by omega)]
  | f + 1, 0, c, _, h, _ => by simp only [up]; rw [if_neg (by omega)]
  | f + 1, f' + 1, c, h, h', hok => by
    simp only [up]
    by_cases h0 : 0 ≤ c
    · rw [if_pos h0, if_pos h0]
      have := hok c.toNat (by omega)
      rw [up_fuel f f' _ (by omega) (by omega) (hok.mono (by omega))]
    · rw [if_neg h0, if_neg h0]
theorem around_neg {C : List (List D)} {c : Int} (h : c < 0) : around C c = [] := by
  unfold around up; rw [if_neg (by omega)]
theorem around_at {C : List (List D)} {c : Int} (h0 : 0 ≤ c) (hok : okC C (c + 1).toNat) : around C c = c :: around C (cI (el C c.toNat) 1) := by
  have hb := hok c.toNat (by omega)
  unfold around
  simp only [up]
  rw [if_pos h0]
  congr 1
  exact up_fuel c.toNat ((cI (el C c.toNat) 1).toNat + 1) (cI (el C c.toNat) 1) (by omega) (by omega) (hok.mono (m := (cI (el C c.toNat) 1 + 1).toNat) (by omega))
theorem atC_up {C : List (List D)} {c : Int} (h : atC C c) (h0 : 0 ≤ c) : atC C (cI (el C c.toNat) 1) := by
  obtain ⟨h1, h2, h3, h4⟩ := h
  have hb := h4 c.toNat (by omega)
  exact ⟨by omega, by omega, h3, h4.mono (m := (cI (el C c.toNat) 1 + 1).toNat) (by omega)⟩
theorem rowI1_of {C : List (List D)} (h : ∀ x ∈ C, FitsF [.str, .int .i64] x) : rowI1 C := fun i hi => by
  have hx := h (el C i) (getD_mem [] hi)
  obtain ⟨a, b, e, _, hb⟩ := fits2 hx
  obtain ⟨z, rfl, _⟩ := wf_i64 hb
  simp only [cI, e]; rfl
theorem loopM84_0 : LoopMeets Try.prog F (R L84_0.key) L84_0 lb84_0 := by
  refine loop_meets (pre := R) mixed (sgAt_all (P := Try.prog) (pre := R) (Φ := F) (l := sg84) ((fun _ h => nomatch h))) (loops_n 0 lk84_0 fun k hk => by omega) L84_0 (fun ρ => ((ρ.getD 0 default).int + 1).toNat) le84_0 fun ρ _ hq => ?_
  obtain ⟨c, g, acc, rfl, hat, hrow, hacc⟩ : prArL ρ := hq
  have hat0 := hat
  obtain ⟨h1, h2, h3, h4⟩ := hat
  by_cases h0 : 0 ≤ c
  · have hn : c.toNat < g.C.length := by omega
    have hr : (g.C.getD c.toNat []).getD 1 default = .i (cI (el g.C c.toNat) 1) := hrow _ hn
    have hb := h4 c.toNat (by omega)
    simp (disch := omega) only [rt84_0, VT.ok, Nd.holds, X.ds, X.d, Op1.ev, Op2.ev, List.getD_cons_zero, List.getD_cons_succ, D.int_i, D.bool_b, D.lst_l, implies_true, true_and, ↓reduceIte, dle_t, dlt_t, hr, List.length_append, List.length_cons, List.length_nil]
    refine round_next ⟨⟨cI (el g.C c.toNat) 1, g, acc ++ [[.i c]], rfl, atC_up hat0 h0, hrow, by rw [List.length_append, List.length_cons, List.length_nil]; omega⟩, ?_, ?_⟩
    · show (cI (el g.C c.toNat) 1 + 1).toNat < (c + 1).toNat
      omega
    · show lpAr [.i (cI (el g.C c.toNat) 1), .s g.nm, .b g.dr, .l g.N, .l g.E, .l g.C, .l (acc ++ [[.i c]])] = lpAr [.i c, .s g.nm, .b g.dr, .l g.N, .l g.E, .l g.C, .l acc]
      simp only [lpAr, around_at h0 h4, List.map_cons, List.append_assoc, List.cons_append, List.nil_append]
      rfl
  · simp (disch := omega) only [rt84_0, VT.ok, X.ds, X.d, Op2.ev, List.getD_cons_zero, List.getD_cons_succ, D.int_i, D.bool_b, Bool.false_eq_true, ↓reduceIte, dle_f]
    refine round_exit (by omega) ?_
    show lpAr [.i c, .s g.nm, .b g.dr, .l g.N, .l g.E, .l g.C, .l acc] = _
    have : c = -1 := by omega
    subst this
    simp only [lpAr, around_neg (show (-1 : Int) < 0 by omega), List.map_nil, List.append_nil]
theorem m84 : Meets Try.prog 84 S84 (R 84) (F 84) := by
  refine meets_of_vt (pre := R) (Φ := F) mixed (sgAt_all (P := Try.prog) (pre := R) (Φ := F) (l := sg84) ((fun _ h => nomatch h))) Try.func84 b84 n84 (loops_n 1 k84 fun k hk => match k, hk with | 0, _ => loop_this lf84_0 loopM84_0) e84 fun ds hf hq => ?_
  obtain ⟨g, ds', rfl, h5, _, _, _, ⟨_, hC⟩⟩ := fitsG hf.flat
  obtain ⟨x, rfl, hx⟩ := fits1 h5
  obtain ⟨c, rfl, _⟩ := wf_i64 hx
  have hq : atC g.C c := hq
  have hpre : prArL [.i c, .s g.nm, .b g.dr, .l g.N, .l g.E, .l g.C, .l []] := ⟨c, g, [], rfl, hq, rowI1_of hC, by have := hq.1; have := hq.2.1; have := hq.2.2.1; simp; omega⟩
  simp only [vt84, VT.ok, Nd.holds, X.outs, X.ds, X.d, takeD_zero, takeD_cons, List.cons_append, List.nil_append, List.getD_cons_zero, List.getD_cons_succ, D.int_i, D.bool_b, D.lst_l, and_true, F18400, R18400, F84, lpAr, aroundD, cL, cI]
  exact fun _ => hpre
theorem m72 : Meets Try.prog 72 S72 (R 72) (F 72) := by
  refine meets_of_vt (pre := R) (Φ := F) mixed (sgAt_all (P := Try.prog) (pre := R) (Φ := F) (l := sg72) (List.forall_mem_cons.2 ⟨Meets.at (pre := R) (Φ := F) m84, (fun _ h => nomatch h)⟩)) Try.func72 b72 n72 (loops_n 0 k72 fun k hk => by omega) e72 fun ds hf hq => ?_
  obtain ⟨g, ds', rfl, h5, _⟩ := fitsG hf.flat
  obtain ⟨x, rfl, hx⟩ := fits1 h5
  simp only [vt72, VT.ok, Nd.holds, X.outs, X.ds, X.d, Op1.ev, takeD_zero, takeD_cons, List.cons_append, List.nil_append, List.getD_cons_zero, List.getD_cons_succ, D.bool_b, D.lst_l, List.length_map, and_true, F84, R84, F72, aroundD, depthD, depth, cL, cI]
  exact fun _ => hq
theorem depth_at {C : List (List D)} {c : Int} (h0 : 0 ≤ c) (hok : okC C (c + 1).toNat) : depth C c = depth C (cI (el C c.toNat) 1) + 1 := by
  unfold depth; rw [around_at h0 hok]; simp
theorem depth_neg {C : List (List D)} {c : Int} (h : c < 0) : depth C c = 0 := by unfold depth; rw [around_neg h]; rfl
theorem loopM54_0 : LoopMeets Try.prog F (R L54_0.key) L54_0 lb54_0 := by
  refine loop_meets (pre := R) mixed (sgAt_all (P := Try.prog) (pre := R) (Φ := F) (l := sg54) ((fun _ h => nomatch h))) (loops_n 0 lk54_0 fun k hk => by omega) L54_0 (fun ρ => ((ρ.getD 0 default).int + 1).toNat) le54_0 fun ρ _ hq => ?_
  obtain ⟨c, n, g, rfl, hat, hrow, hn0, hacc⟩ : prDep ρ := hq
  have hat0 := hat
  obtain ⟨h1, h2, h3, h4⟩ := hat
  by_cases h0 : 0 ≤ c
  · have hn : c.toNat < g.C.length := by omega
    have hr : (g.C.getD c.toNat []).getD 1 default = .i (cI (el g.C c.toNat) 1) := hrow _ hn
    have hb := h4 c.toNat (by omega)
    simp (disch := omega) only [rt54_0, VT.ok, Nd.holds, X.ds, X.d, Op1.ev, Op2.ev, List.getD_cons_zero, List.getD_cons_succ, D.int_i, D.bool_b, D.lst_l, implies_true, true_and, ↓reduceIte, dle_t, dlt_t, w64', hr]
    refine round_next ⟨⟨cI (el g.C c.toNat) 1, n + 1, g, rfl, atC_up hat0 h0, hrow, by omega, by omega⟩, ?_, ?_⟩
    · show (cI (el g.C c.toNat) 1 + 1).toNat < (c + 1).toNat
      omega
    · show lpDep [.i (cI (el g.C c.toNat) 1), .i (n + 1), .s g.nm, .b g.dr, .l g.N, .l g.E, .l g.C] = lpDep [.i c, .i n, .s g.nm, .b g.dr, .l g.N, .l g.E, .l g.C]
      simp only [lpDep, depth_at h0 h4]
      rw [show n + 1 + depth g.C (cI (el g.C c.toNat) 1) = n + (depth g.C (cI (el g.C c.toNat) 1) + 1) by omega]
  · simp (disch := omega) only [rt54_0, VT.ok, X.ds, X.d, Op2.ev, List.getD_cons_zero, List.getD_cons_succ, D.int_i, D.bool_b, Bool.false_eq_true, ↓reduceIte, dle_f]
    refine round_exit (by omega) ?_
    show lpDep [.i c, .i n, .s g.nm, .b g.dr, .l g.N, .l g.E, .l g.C] = _
    have : c = -1 := by omega
    subst this
    simp only [lpDep, depth_neg (show (-1 : Int) < 0 by omega), Int.add_zero]
theorem m54 : Meets Try.prog 54 S54 (R 54) (F 54) := by
  refine meets_of_vt (pre := R) (Φ := F) mixed (sgAt_all (P := Try.prog) (pre := R) (Φ := F) (l := sg54) ((fun _ h => nomatch h))) Try.func54 b54 n54 (loops_n 1 k54 fun k hk => match k, hk with | 0, _ => loop_this lf54_0 loopM54_0) e54 fun ds hf hq => ?_
  obtain ⟨g, ds', rfl, h5, _, _, _, ⟨_, hC⟩⟩ := fitsG hf.flat
  obtain ⟨x, rfl, hx⟩ := fits1 h5
  obtain ⟨c, rfl, _⟩ := wf_i64 hx
  have hq : atC g.C c := hq
  have hpre : prDep [.i c, .i 0, .s g.nm, .b g.dr, .l g.N, .l g.E, .l g.C] := ⟨c, 0, g, rfl, hq, rowI1_of hC, by omega, by have := hq.2.1; have := hq.2.2.1; omega⟩
  simp only [vt54, VT.ok, Nd.holds, X.outs, X.ds, X.d, takeD_zero, takeD_cons, List.cons_append, List.nil_append, List.getD_cons_zero, List.getD_cons_succ, D.int_i, D.bool_b, D.lst_l, and_true, F15400, R15400, F54, lpDep, depthD, cL, cI, Int.zero_add]
  exact fun _ => hpre
theorem m49 : Meets Try.prog 49 S49 (R 49) (F 49) := by
  refine meets_of_vt (pre := R) (Φ := F) mixed (sgAt_all (P := Try.prog) (pre := R) (Φ := F) (l := sg49) (List.forall_mem_cons.2 ⟨Meets.at (pre := R) (Φ := F) m47, List.forall_mem_cons.2 ⟨Meets.at (pre := R) (Φ := F) m66, List.forall_mem_cons.2 ⟨Meets.at (pre := R) (Φ := F) m70, List.forall_mem_cons.2 ⟨Meets.at (pre := R) (Φ := F) m72, (fun _ h => nomatch h)⟩⟩⟩⟩)) Try.func49 b49 n49 (loops_n 0 k49 fun k hk => by omega) e49 fun ds hf hq => ?_
  obtain ⟨g, ds', rfl, h5, _, _, _, ⟨_, hC⟩⟩ := fitsG hf.flat
  obtain ⟨x, rfl, hx⟩ := fits1 h5
  obtain ⟨i, e, hi, h16, hok⟩ : prClu (.s g.nm :: .b g.dr :: .l g.N :: .l g.E :: .l g.C :: [x]) := hq
  have e : x = .i (i : Int) := e
  subst e
  have hi : i < g.C.length := hi
  have h16 : g.C.length ≤ 16 := h16
  have hok : okC g.C i := hok
  have hF : F 49 (.s g.nm :: .b g.dr :: .l g.N :: .l g.E :: .l g.C :: [.i (i : Int)]) = [.i (cluE g.N g.C i)] := rfl
  rw [hF]
  generalize hv : cluE g.N g.C i = res
  unfold cluE at hv
  simp (disch := omega) only [vt49, VT.ok, Nd.holds, X.outs, X.ds, X.d, Op1.ev, Op2.ev, takeD_zero, takeD_cons, List.cons_append, List.nil_append, List.getD_cons_zero, List.getD_cons_succ, D.int_i, D.bool_b, D.lst_l, ite_b, ite_or, Int.toNat_natCast, implies_true, true_and, takeD1_0, F47, R47, F66, R66, F70, R70, F72, R72, dle_t, dlt_t, nameD, findD, depthD, cS, cI, cL, Int.toNat_natCast]
  cases h1 : isName (cS (el g.C i) 0)
  · rw [h1] at hv
    simp only [Bool.not_false, if_true]
    rw [← hv]; rfl
  · simp only [h1, if_true] at hv
    simp only [Bool.not_true, Bool.false_eq_true, if_false]
    refine ⟨fun _ k _ => ⟨_, cellsN 2 _, rfl, rfl, cellsN_length 2 _⟩, ?_⟩
    show if (if decide (0 ≤ find g.N (cS (el g.C i) 0)) = true then D.b true else D.b (anyN (nmP (g.C.take i) (cS (el g.C i) 0)) (g.C.take i).length)).bool = true then _ else _
    rw [any_take (by omega)]
    simp only [ite_b, ite_or, D.bool_b]
    cases h2 : (decide (0 ≤ find g.N (cS (el g.C i) 0)) || anyN (nmP g.C (cS (el g.C i) 0)) i)
    · rw [h2] at hv
      simp only [Bool.false_eq_true, if_false] at hv ⊢
      by_cases h3 : cI (el g.C i) 1 < -1 ∨ (i : Int) ≤ cI (el g.C i) 1
      · rw [if_pos h3] at hv
        rw [if_pos (by exact dor_t h3), ← hv]
      · rw [if_neg h3] at hv
        rw [if_neg (by exact dor_f h3)]
        have hat : atC g.C i := ⟨by omega, by omega, h16, fun k hk => by
          by_cases e : k = i
          · subst e; omega
          · exact hok k (by omega)⟩
        refine ⟨fun _ => hat, ?_⟩
        by_cases h4 : 6 < depth g.C i
        · rw [if_pos h4] at hv
          rw [if_pos (by exact dec_t h4), ← hv]
        · rw [if_neg h4] at hv
          rw [if_neg (by exact dec_f h4), ← hv]
    · rw [h2] at hv
      simp only [if_true] at hv ⊢
      rw [← hv]
theorem loopM40_0 : LoopMeets Try.prog F (R L40_0.key) L40_0 lb40_0 := by
  refine loop_meets (pre := R) mixed (sgAt_all (P := Try.prog) (pre := R) (Φ := F) (l := sg40) (List.forall_mem_cons.2 ⟨Meets.at (pre := R) (Φ := F) m38, List.forall_mem_cons.2 ⟨Meets.at (pre := R) (Φ := F) m58, List.forall_mem_cons.2 ⟨Meets.at (pre := R) (Φ := F) m54, (fun _ h => nomatch h)⟩⟩⟩)) (loops_n 0 lk40_0 fun k hk => by omega) L40_0 (fun ρ => ((ρ.getD 0 default).int - (ρ.getD 2 default).int).toNat) le40_0 fun ρ _ hq => ?_
  obtain ⟨i, v, g, nm, z, j, rfl, hj, hi, hm⟩ : prCluR ρ := hq
  rw [maxLen_val] at hm
  by_cases hlt : j < i
  · simp (disch := omega) only [rt40_0, VT.ok, Nd.holds, X.ds, X.d, Op1.ev, Op2.ev, List.getD_cons_zero, List.getD_cons_succ, D.int_i, D.bool_b, D.lst_l, D.str_s, Int.toNat_natCast, implies_true, true_and, ↓reduceIte, dle_t, dlt_t, w64']
    show if nmP g.C nm j = true then _ else _
    cases hb : nmP g.C nm j
    · simp only [Bool.false_eq_true, if_false]
      refine round_next ⟨⟨i, v, g, nm, z, j + 1, rfl, by omega, hi, hm⟩, ?_, ?_⟩
      · show ((i : Int) - ((j + 1 : Nat) : Int)).toNat < ((i : Int) - (j : Int)).toNat
        omega
      · show lpCluR [.i (i : Int), v, .i ((j + 1 : Nat) : Int), .s g.nm, .b g.dr, .l g.N, .l g.E, .l g.C, .s nm, z] = lpCluR [.i (i : Int), v, .i (j : Int), .s g.nm, .b g.dr, .l g.N, .l g.E, .l g.C, .s nm, z]
        simp only [lpCluR, Int.toNat_natCast]
        exact scan_next hlt hb
    · simp only [if_true]
      refine round_exit (by omega) ?_
      show lpCluR [.i (i : Int), v, .i (j : Int), .s g.nm, .b g.dr, .l g.N, .l g.E, .l g.C, .s nm, z] = _
      simp only [lpCluR, Int.toNat_natCast]
      exact scan_hit hlt hb
  · have hj' : j = i := by omega
    subst hj'
    simp (disch := omega) only [rt40_0, VT.ok, X.ds, X.d, Op2.ev, List.getD_cons_zero, List.getD_cons_succ, D.int_i, D.bool_b, Bool.false_eq_true, ↓reduceIte, dlt_f]
    refine round_exit (by omega) ?_
    show lpCluR [.i (j : Int), v, .i (j : Int), .s g.nm, .b g.dr, .l g.N, .l g.E, .l g.C, .s nm, z] = _
    simp only [lpCluR, Int.toNat_natCast]
    exact scan_end
theorem row_s {C : List (List D)} {c : List CT} (h : ∀ x ∈ C, FitsF (.str :: c) x) {i : Nat} (hi : i < C.length) : (el C i).getD 0 default = .s (cS (el C i) 0) := by
  have hx := h (el C i) (getD_mem [] hi)
  match e : el C i, hx with
  | a :: bs, ⟨h0, _⟩ =>
    obtain ⟨s, rfl, _⟩ := wf_str h0
    rfl
theorem m40 : Meets Try.prog 40 S40 (R 40) (F 40) := by
  refine meets_of_vt (pre := R) (Φ := F) mixed (sgAt_all (P := Try.prog) (pre := R) (Φ := F) (l := sg40) (List.forall_mem_cons.2 ⟨Meets.at (pre := R) (Φ := F) m38, List.forall_mem_cons.2 ⟨Meets.at (pre := R) (Φ := F) m58, List.forall_mem_cons.2 ⟨Meets.at (pre := R) (Φ := F) m54, (fun _ h => nomatch h)⟩⟩⟩)) Try.func40 b40 n40 (loops_n 1 k40 fun k hk => match k, hk with | 0, _ => loop_this lf40_0 loopM40_0) e40 fun ds hf hq => ?_
  obtain ⟨g, ds', rfl, h5, _, _, _, ⟨hmC, hC⟩⟩ := fitsG hf.flat
  obtain ⟨x, rfl, hx⟩ := fits1 h5
  obtain ⟨i, e, hi, h16, hok⟩ : prClu (.s g.nm :: .b g.dr :: .l g.N :: .l g.E :: .l g.C :: [x]) := hq
  have e : x = .i (i : Int) := e
  subst e
  have hi : i < g.C.length := hi
  have h16 : g.C.length ≤ 16 := h16
  have hok : okC g.C i := hok
  have hF : F 40 (.s g.nm :: .b g.dr :: .l g.N :: .l g.E :: .l g.C :: [.i (i : Int)]) = [.i (cluE g.N g.C i)] := rfl
  rw [hF]
  generalize hv : cluE g.N g.C i = res
  unfold cluE at hv
  have hnm : (g.C.getD i []).getD 0 default = .s (cS (el g.C i) 0) := row_s hC hi
  have hpre : prCluR [.i (i : Int), .i 0, .i 0, .s g.nm, .b g.dr, .l g.N, .l g.E, .l g.C, .s (cS (el g.C i) 0), (g.C.getD i []).getD 1 default] := ⟨i, _, g, _, _, 0, rfl, by omega, hi, hmC⟩
  simp (disch := omega) only [vt40, VT.ok, Nd.holds, X.outs, X.ds, X.d, Op1.ev, Op2.ev, takeD_zero, takeD_cons, List.cons_append, List.nil_append, List.getD_cons_zero, List.getD_cons_succ, D.int_i, D.bool_b, D.lst_l, ite_b, ite_or, Int.toNat_natCast, implies_true, true_and, F38, R38, F58, R58, F54, R54, F14000, R14000, dle_t, dlt_t, nameD, findD, depthD, cI, cL, Int.toNat_natCast, hnm, lpCluR, Int.toNat_zero, Nat.sub_zero]
  cases h1 : isName (cS (el g.C i) 0)
  · rw [h1] at hv
    simp only [h1, cS, List.getD_cons_zero, D.str_s, Bool.not_false, if_true]
    rw [← hv]; rfl
  · simp only [h1, if_true] at hv
    rw [if_neg (by
      show ¬ (!isName (cS (el g.C i) 0)) = true
      rw [h1]; decide)]
    refine ⟨fun _ => hpre, ?_⟩
    rcases scan_two (p := nmP g.C (cS (el g.C i) 0)) i with ⟨h2, k, _, _, _, h⟩ | ⟨h2, h⟩
    · rw [h2, Bool.or_true, if_pos rfl] at hv
      simp only [h, takeD_zero, takeD_cons, List.getD_cons_zero, List.getD_cons_succ, D.int_i, ↓reduceIte, beq_t]
      rw [← hv]
    · rw [h2, Bool.or_false] at hv
      simp (disch := omega) only [h, takeD_zero, takeD_cons, List.cons_append, List.nil_append, List.getD_cons_zero, List.getD_cons_succ, D.int_i, Bool.false_eq_true, ↓reduceIte, beq_f]
      by_cases h4 : 0 ≤ find g.N (cS (el g.C i) 0)
      · rw [if_pos (dec_t h4)] at hv
        rw [if_pos (by exact dec_t h4), ← hv]
      · rw [if_neg (dec_f h4)] at hv
        rw [if_neg (by exact dec_f h4)]
        by_cases h3 : cI (el g.C i) 1 < -1 ∨ (i : Int) ≤ cI (el g.C i) 1
        · rw [if_pos h3] at hv
          rw [if_pos (by exact dor_t h3), ← hv]
        · rw [if_neg h3] at hv
          rw [if_neg (by exact dor_f h3)]
          have hat : atC g.C i := ⟨by omega, by omega, h16, fun k hk => by
            by_cases e : k = i
            · subst e; omega
            · exact hok k (by omega)⟩
          refine ⟨fun _ => hat, ?_⟩
          by_cases h4 : 6 < depth g.C i
          · rw [if_pos h4] at hv
            rw [if_pos (by exact dec_t h4), ← hv]
          · rw [if_neg h4] at hv
            rw [if_neg (by exact dec_f h4), ← hv]
theorem fitsE {ds : List D} (h : FitsF [.int .i64, .int .i64, .int .i64, .int .i64, .str, .int .i64, .int .i64] ds) : ∃ (a b c d : Int) (s : ByteArray) (w l : Int), ds = [.i a, .i b, .i c, .i d, .s s, .i w, .i l] ∧ s.size ≤ maxLen := by
  match ds, h with
  | [d0, d1, d2, d3, d4, d5, d6], ⟨h0, h1, h2, h3, h4, h5, h6, _⟩ =>
    obtain ⟨a, rfl, _⟩ := wf_i64 h0
    obtain ⟨b, rfl, _⟩ := wf_i64 h1
    obtain ⟨c, rfl, _⟩ := wf_i64 h2
    obtain ⟨d, rfl, _⟩ := wf_i64 h3
    obtain ⟨s, rfl, hs⟩ := wf_str h4
    obtain ⟨w, rfl, _⟩ := wf_i64 h5
    obtain ⟨l, rfl, _⟩ := wf_i64 h6
    exact ⟨a, b, c, d, s, w, l, rfl, hs⟩
theorem m50 : Meets Try.prog 50 S50 (R 50) (F 50) := by
  refine meets_of_vt (pre := R) (Φ := F) mixed (sgAt_all (P := Try.prog) (pre := R) (Φ := F) (l := sg50) (List.forall_mem_cons.2 ⟨Meets.at (pre := R) (Φ := F) m67, (fun _ h => nomatch h)⟩)) Try.func50 b50 n50 (loops_n 0 k50 fun k hk => by omega) e50 fun ds hf hq => ?_
  obtain ⟨g, ds', rfl, h5, _⟩ := fitsG hf.flat
  obtain ⟨a, b, c, d, s, w, l, rfl, _⟩ := fitsE h5
  have hF : F 50 (.s g.nm :: .b g.dr :: .l g.N :: .l g.E :: .l g.C :: [.i a, .i b, .i c, .i d, .s s, .i w, .i l]) = [.i (edgeE g.N [.i a, .i b, .i c, .i d, .s s, .i w, .i l])] := rfl
  rw [hF]
  generalize hv : edgeE g.N [.i a, .i b, .i c, .i d, .s s, .i w, .i l] = res
  simp only [edgeE, cI, cS, cL, List.getD_cons_zero, List.getD_cons_succ, D.int_i, D.str_s] at hv
  generalize hA : (((el g.N a.toNat).getD 5 default).lst.length : Int) = A at hv
  generalize hB : (((el g.N b.toNat).getD 5 default).lst.length : Int) = B at hv
  have hA' : (((g.N.getD a.toNat []).getD 5 default).lst.length : Int) = A := hA
  have hB' : (((g.N.getD b.toNat []).getD 5 default).lst.length : Int) = B := hB
  by_cases h1 : 0 ≤ a ∧ a < g.N.length ∧ 0 ≤ b ∧ b < g.N.length ∧ -1 ≤ c ∧ c < A ∧ -1 ≤ d ∧ d < B
  · rw [if_pos h1] at hv
    simp (disch := omega) only [vt50, VT.ok, Nd.holds, X.outs, X.ds, X.d, Op1.ev, Op2.ev, takeD_zero, takeD_cons, List.cons_append, List.nil_append, List.getD_cons_zero, List.getD_cons_succ, D.int_i, D.bool_b, D.lst_l, D.str_s, ite_b, ite_or, imin, imax, Bool.false_eq_true, implies_true, true_and, F67, R67, ↓reduceIte, dle_t, dle_f, dlt_t, dlt_f, hA', hB', labelD, cS, Bool.not_false]
    by_cases h2 : labelE s = 0
    · rw [if_pos h2] at hv
      rw [if_neg (by exact bne_f h2)]
      by_cases h3 : 1 ≤ w ∧ w ≤ 1000 ∧ 1 ≤ l ∧ l ≤ 64
      · rw [if_pos h3] at hv
        simp (disch := omega) only [↓reduceIte, dlt_f, Bool.or_self, Bool.false_eq_true]
        rw [← hv]
      · rw [if_neg h3] at hv
        rw [if_pos (by
          simp only [Bool.or_eq_true, decide_eq_true_eq]
          omega), ← hv]
    · rw [if_neg h2] at hv
      rw [if_pos (by exact bne_t h2), ← hv]
  · rw [if_neg h1] at hv
    have hc : ((((decide (min a b < 0) || decide ((g.N.length : Int) ≤ max a b)) || decide (min c d < -1)) || decide (A ≤ c)) || decide (B ≤ d)) = true := by
      simp only [Bool.or_eq_true, decide_eq_true_eq]
      omega
    simp only [vt50, VT.ok, Nd.holds, X.outs, X.ds, X.d, Op1.ev, Op2.ev, List.cons_append, List.nil_append, List.getD_cons_zero, List.getD_cons_succ, D.int_i, D.bool_b, D.lst_l, ite_b, ite_or, imin, imax, if_true, implies_true, true_and, takeD1_0, F67, R67, hA', hB', hc]
    simp only [Bool.not_eq_true', Bool.or_eq_false_iff, decide_eq_false_iff_not, decide_eq_true_eq]
    exact ⟨fun h => by omega, fun h => by omega, fun h => by omega, fun h => by omega, by rw [hv]⟩
theorem m41 : Meets Try.prog 41 S41 (R 41) (F 41) := by
  refine meets_of_vt (pre := R) (Φ := F) mixed (sgAt_all (P := Try.prog) (pre := R) (Φ := F) (l := sg41) (List.forall_mem_cons.2 ⟨Meets.at (pre := R) (Φ := F) m59, (fun _ h => nomatch h)⟩)) Try.func41 b41 n41 (loops_n 0 k41 fun k hk => by omega) e41 fun ds hf hq => ?_
  obtain ⟨g, ds', rfl, h5, _⟩ := fitsG hf.flat
  obtain ⟨a, b, c, d, s, w, l, rfl, _⟩ := fitsE h5
  have hF : F 41 (.s g.nm :: .b g.dr :: .l g.N :: .l g.E :: .l g.C :: [.i a, .i b, .i c, .i d, .s s, .i w, .i l]) = [.i (edgeE g.N [.i a, .i b, .i c, .i d, .s s, .i w, .i l])] := rfl
  rw [hF]
  generalize hv : edgeE g.N [.i a, .i b, .i c, .i d, .s s, .i w, .i l] = res
  simp only [edgeE, cI, cS, cL, List.getD_cons_zero, List.getD_cons_succ, D.int_i, D.str_s] at hv
  generalize hA : (((el g.N a.toNat).getD 5 default).lst.length : Int) = A at hv
  generalize hB : (((el g.N b.toNat).getD 5 default).lst.length : Int) = B at hv
  have hA' : (((g.N.getD a.toNat []).getD 5 default).lst.length : Int) = A := hA
  have hB' : (((g.N.getD b.toNat []).getD 5 default).lst.length : Int) = B := hB
  by_cases h0 : 0 ≤ a ∧ a < g.N.length ∧ 0 ≤ b ∧ b < g.N.length
  · by_cases h1 : -1 ≤ c ∧ c < A ∧ -1 ≤ d ∧ d < B
    · rw [if_pos ⟨h0.1, h0.2.1, h0.2.2.1, h0.2.2.2, h1⟩] at hv
      simp (disch := omega) only [vt41, VT.ok, Nd.holds, X.outs, X.ds, X.d, Op1.ev, Op2.ev, takeD_zero, takeD_cons, List.cons_append, List.nil_append, List.getD_cons_zero, List.getD_cons_succ, D.int_i, D.bool_b, D.lst_l, D.str_s, ite_b, ite_or, Bool.false_eq_true, implies_true, true_and, F59, R59, ↓reduceIte, dle_t, dle_f, dlt_t, dlt_f, hA', hB', plainD, cS, Bool.not_false]
      by_cases h4 : 32 < (s.size : Int)
      · have h3 : labelE s = 2 := by rw [labelE, if_pos h4]
        rw [h3, if_neg (by decide)] at hv
        rw [if_pos (by exact dec_t h4), ← hv]
      · rw [if_neg (by exact dec_f h4)]
        cases h6 : plainB s
        · have h3 : labelE s = 7 := by rw [labelE, if_neg h4, h6]; rfl
          rw [h3, if_neg (by decide)] at hv
          simp only [Bool.not_false, Bool.true_or, if_true]
          rw [← hv]
        · have h3 : labelE s = 0 := by rw [labelE, if_neg h4, h6]; rfl
          rw [h3, if_pos rfl] at hv
          simp only [Bool.not_true, Bool.false_or]
          by_cases h3 : 1 ≤ w ∧ w ≤ 1000 ∧ 1 ≤ l ∧ l ≤ 64
          · rw [if_pos h3] at hv
            simp (disch := omega) only [↓reduceIte, dlt_f, Bool.or_self, Bool.false_eq_true]
            rw [← hv]
          · rw [if_neg h3] at hv
            rw [if_pos (by
              simp only [Bool.or_eq_true, decide_eq_true_eq]
              omega), ← hv]
    · rw [if_neg (by omega)] at hv
      have hc : (((decide (c < -1) || decide (A ≤ c)) || decide (d < -1)) || decide (B ≤ d)) = true := by
        simp only [Bool.or_eq_true, decide_eq_true_eq]
        omega
      simp (disch := omega) only [vt41, VT.ok, Nd.holds, X.ds, X.d, Op1.ev, Op2.ev, List.getD_cons_zero, List.getD_cons_succ, D.int_i, D.bool_b, D.lst_l, ite_b, ite_or, Bool.false_eq_true, implies_true, true_and, ↓reduceIte, dle_t, dle_f, dlt_t, dlt_f, hA', hB', hc]
      rw [hv]
  · rw [if_neg (by omega)] at hv
    have hc : (((decide (a < 0) || decide ((g.N.length : Int) ≤ a)) || decide (b < 0)) || decide ((g.N.length : Int) ≤ b)) = true := by
      simp only [Bool.or_eq_true, decide_eq_true_eq]
      omega
    simp only [vt41, VT.ok, Nd.holds, X.outs, X.ds, X.d, Op1.ev, Op2.ev, List.cons_append, List.nil_append, List.getD_cons_zero, List.getD_cons_succ, D.int_i, D.bool_b, D.lst_l, D.str_s, ite_b, ite_or, if_true, implies_true, true_and, takeD1_0, F59, R59, hc]
    rw [hv]
end Go.Proofs.Ythpppbfiiphgoaa.rv
namespace Go.Proofs.Ythpppbfiiphgoaa.rv
set_option maxRecDepth 10000
open Go.RV
theorem edgeD7 (a b : D) (N : List (List D)) (c d : D) (x : List D) : edgeD [a, b, .l N, c, d, x.getD 0 default, x.getD 1 default, x.getD 2 default, x.getD 3 default, x.getD 4 default, x.getD 5 default, x.getD 6 default] = [.i (edgeE N x)] := rfl
theorem loopM30_0 : LoopMeets Try.prog F (R L30_0.key) L30_0 lb30_0 := by
  refine loop_meets (pre := R) mixed (sgAt_all (P := Try.prog) (pre := R) (Φ := F) (l := sg30) (List.forall_mem_cons.2 ⟨Meets.at (pre := R) (Φ := F) m47, List.forall_mem_cons.2 ⟨Meets.at (pre := R) (Φ := F) m48, List.forall_mem_cons.2 ⟨Meets.at (pre := R) (Φ := F) m49, List.forall_mem_cons.2 ⟨Meets.at (pre := R) (Φ := F) m50, (fun _ h => nomatch h)⟩⟩⟩⟩)) (loops_n 0 lk30_0 fun k hk => by omega) L30_0 (fun ρ => ((ρ.getD 1 default).int - (ρ.getD 2 default).int).toNat) le30_0 fun ρ _ hq => ?_
  obtain ⟨v, g, j, rfl, hj, hm⟩ : prV0 ρ := hq
  rw [maxLen_val] at hm
  by_cases hlt : j < g.N.length
  · have hN : nodeE g.N g.C j = 0 → RoundOk F (R L30_0.key) (fun ρ => ((ρ.getD 1 default).int - (ρ.getD 2 default).int).toNat) L30_0 [v, .i (g.N.length : Int), .i (j : Int), .s g.nm, .b g.dr, .l g.N, .l g.E, .l g.C] [.i (-1), v, .i ((j + 1 : Nat) : Int)] := fun h0 => by
      refine round_next ⟨⟨v, g, j + 1, rfl, by omega, hm⟩, ?_, ?_⟩
      · show ((g.N.length : Int) - ((j + 1 : Nat) : Int)).toNat < ((g.N.length : Int) - (j : Int)).toNat
        omega
      · show lpV0 [v, .i (g.N.length : Int), .i ((j + 1 : Nat) : Int), .s g.nm, .b g.dr, .l g.N, .l g.E, .l g.C] = lpV0 [v, .i (g.N.length : Int), .i (j : Int), .s g.nm, .b g.dr, .l g.N, .l g.E, .l g.C]
        simp only [lpV0, errLp, Int.toNat_natCast]
        exact scan_next hlt (by simp only [er, h0]; rfl)
    have hX : ∀ z : Int, nodeE g.N g.C j = z → z ≠ 0 → RoundOk F (R L30_0.key) (fun ρ => ((ρ.getD 1 default).int - (ρ.getD 2 default).int).toNat) L30_0 [v, .i (g.N.length : Int), .i (j : Int), .s g.nm, .b g.dr, .l g.N, .l g.E, .l g.C] [.i 0, .i z, .i (j : Int)] := fun z h0 hz => by
      refine round_exit (by omega) ?_
      show lpV0 [v, .i (g.N.length : Int), .i (j : Int), .s g.nm, .b g.dr, .l g.N, .l g.E, .l g.C] = _
      simp only [lpV0, errLp, Int.toNat_natCast]
      rw [← h0]
      exact scan_hit hlt (by simp only [er, h0]; simpa using hz)
    have hpre : prNode [.s g.nm, .b g.dr, .l g.N, .l g.E, .l g.C, .i (j : Int)] := ⟨j, rfl, hlt⟩
    simp (disch := omega) only [rt30_0, VT.ok, Nd.holds, X.outs, X.ds, X.d, Op1.ev, Op2.ev, takeD_zero, takeD_cons, List.cons_append, List.nil_append, List.getD_cons_zero, List.getD_cons_succ, D.int_i, D.bool_b, D.lst_l, Int.toNat_natCast, F48, R48, ↓reduceIte, dlt_t, w64', nodeD, cL, cI, Int.toNat_natCast]
    refine ⟨fun _ => hpre, ?_⟩
    by_cases h : nodeE g.N g.C j = 0
    · rw [if_neg (by exact bne_f h)]
      exact hN h
    · rw [if_pos (by exact bne_t h)]
      exact hX _ rfl h
  · have hj' : j = g.N.length := by omega
    subst hj'
    simp (disch := omega) only [rt30_0, VT.ok, X.ds, X.d, Op2.ev, List.getD_cons_zero, List.getD_cons_succ, D.int_i, D.bool_b, Bool.false_eq_true, ↓reduceIte, dlt_f]
    refine round_exit (by omega) ?_
    show lpV0 [v, .i (g.N.length : Int), .i (g.N.length : Int), .s g.nm, .b g.dr, .l g.N, .l g.E, .l g.C] = _
    simp only [lpV0, errLp, Int.toNat_natCast]
    exact scan_end
theorem loopM20_0 : LoopMeets Try.prog F (R L20_0.key) L20_0 lb20_0 := by
  refine loop_meets (pre := R) mixed (sgAt_all (P := Try.prog) (pre := R) (Φ := F) (l := sg20) (List.forall_mem_cons.2 ⟨Meets.at (pre := R) (Φ := F) m38, List.forall_mem_cons.2 ⟨Meets.at (pre := R) (Φ := F) m39, List.forall_mem_cons.2 ⟨Meets.at (pre := R) (Φ := F) m40, List.forall_mem_cons.2 ⟨Meets.at (pre := R) (Φ := F) m41, (fun _ h => nomatch h)⟩⟩⟩⟩)) (loops_n 0 lk20_0 fun k hk => by omega) L20_0 (fun ρ => (((ρ.getD 4 default).lst.length : Int) - (ρ.getD 1 default).int).toNat) le20_0 fun ρ _ hq => ?_
  obtain ⟨v, g, j, rfl, hj, hm⟩ : prW0 ρ := hq
  rw [maxLen_val] at hm
  by_cases hlt : j < g.N.length
  · have hN : nodeE g.N g.C j = 0 → RoundOk F (R L20_0.key) (fun ρ => (((ρ.getD 4 default).lst.length : Int) - (ρ.getD 1 default).int).toNat) L20_0 [v, .i (j : Int), .s g.nm, .b g.dr, .l g.N, .l g.E, .l g.C] [.i (-1), v, .i ((j + 1 : Nat) : Int)] := fun h0 => by
      refine round_next ⟨⟨v, g, j + 1, rfl, by omega, hm⟩, ?_, ?_⟩
      · show ((g.N.length : Int) - ((j + 1 : Nat) : Int)).toNat < ((g.N.length : Int) - (j : Int)).toNat
        omega
      · show lpW0 [v, .i ((j + 1 : Nat) : Int), .s g.nm, .b g.dr, .l g.N, .l g.E, .l g.C] = lpW0 [v, .i (j : Int), .s g.nm, .b g.dr, .l g.N, .l g.E, .l g.C]
        simp only [lpW0, errLp, Int.toNat_natCast]
        exact scan_next hlt (by simp only [er, h0]; rfl)
    have hX : ∀ z : Int, nodeE g.N g.C j = z → z ≠ 0 → RoundOk F (R L20_0.key) (fun ρ => (((ρ.getD 4 default).lst.length : Int) - (ρ.getD 1 default).int).toNat) L20_0 [v, .i (j : Int), .s g.nm, .b g.dr, .l g.N, .l g.E, .l g.C] [.i 0, .i z, .i (j : Int)] := fun z h0 hz => by
      refine round_exit (by omega) ?_
      show lpW0 [v, .i (j : Int), .s g.nm, .b g.dr, .l g.N, .l g.E, .l g.C] = _
      simp only [lpW0, errLp, Int.toNat_natCast]
      rw [← h0]
      exact scan_hit hlt (by simp only [er, h0]; simpa using hz)
    have hpre : prNode [.s g.nm, .b g.dr, .l g.N, .l g.E, .l g.C, .i (j : Int)] := ⟨j, rfl, hlt⟩
    simp (disch := omega) only [rt20_0, VT.ok, Nd.holds, X.outs, X.ds, X.d, Op1.ev, Op2.ev, takeD_zero, takeD_cons, List.cons_append, List.nil_append, List.getD_cons_zero, List.getD_cons_succ, D.int_i, D.bool_b, D.lst_l, Int.toNat_natCast, F39, R39, ↓reduceIte, dlt_t, w64', nodeD, cL, cI, Int.toNat_natCast]
    refine ⟨fun _ => hpre, ?_⟩
    by_cases h : nodeE g.N g.C j = 0
    · rw [if_neg (by exact bne_f h)]
      exact hN h
    · rw [if_pos (by exact bne_t h)]
      exact hX _ rfl h
  · have hj' : j = g.N.length := by omega
    subst hj'
    simp (disch := omega) only [rt20_0, VT.ok, X.ds, X.d, Op1.ev, Op2.ev, List.getD_cons_zero, List.getD_cons_succ, D.int_i, D.bool_b, D.lst_l, Bool.false_eq_true, ↓reduceIte, dlt_f]
    refine round_exit (by omega) ?_
    show lpW0 [v, .i (g.N.length : Int), .s g.nm, .b g.dr, .l g.N, .l g.E, .l g.C] = _
    simp only [lpW0, errLp, Int.toNat_natCast]
    exact scan_end
theorem loopM30_1 : LoopMeets Try.prog F (R L30_1.key) L30_1 lb30_1 := by
  refine loop_meets (pre := R) mixed (sgAt_all (P := Try.prog) (pre := R) (Φ := F) (l := sg30) (List.forall_mem_cons.2 ⟨Meets.at (pre := R) (Φ := F) m47, List.forall_mem_cons.2 ⟨Meets.at (pre := R) (Φ := F) m48, List.forall_mem_cons.2 ⟨Meets.at (pre := R) (Φ := F) m49, List.forall_mem_cons.2 ⟨Meets.at (pre := R) (Φ := F) m50, (fun _ h => nomatch h)⟩⟩⟩⟩)) (loops_n 0 lk30_1 fun k hk => by omega) L30_1 (fun ρ => ((ρ.getD 1 default).int - (ρ.getD 2 default).int).toNat) le30_1 fun ρ _ hq => ?_
  obtain ⟨v, g, j, rfl, hj, h16, hk⟩ : prV1 ρ := hq
  by_cases hlt : j < g.C.length
  · have hN : cluE g.N g.C j = 0 → RoundOk F (R L30_1.key) (fun ρ => ((ρ.getD 1 default).int - (ρ.getD 2 default).int).toNat) L30_1 [v, .i (g.C.length : Int), .i (j : Int), .s g.nm, .b g.dr, .l g.N, .l g.E, .l g.C] [.i (-1), v, .i ((j + 1 : Nat) : Int)] := fun h0 => by
      refine round_next ⟨⟨v, g, j + 1, rfl, by omega, h16, by intro k hk'; rcases Nat.lt_or_ge k j with e | e; exact hk k e; rw [show k = j by omega]; exact h0⟩, ?_, ?_⟩
      · show ((g.C.length : Int) - ((j + 1 : Nat) : Int)).toNat < ((g.C.length : Int) - (j : Int)).toNat
        omega
      · show lpV1 [v, .i (g.C.length : Int), .i ((j + 1 : Nat) : Int), .s g.nm, .b g.dr, .l g.N, .l g.E, .l g.C] = lpV1 [v, .i (g.C.length : Int), .i (j : Int), .s g.nm, .b g.dr, .l g.N, .l g.E, .l g.C]
        simp only [lpV1, errLp, Int.toNat_natCast]
        exact scan_next hlt (by simp only [er, h0]; rfl)
    have hX : ∀ z : Int, cluE g.N g.C j = z → z ≠ 0 → RoundOk F (R L30_1.key) (fun ρ => ((ρ.getD 1 default).int - (ρ.getD 2 default).int).toNat) L30_1 [v, .i (g.C.length : Int), .i (j : Int), .s g.nm, .b g.dr, .l g.N, .l g.E, .l g.C] [.i 0, .i z, .i (j : Int)] := fun z h0 hz => by
      refine round_exit (by omega) ?_
      show lpV1 [v, .i (g.C.length : Int), .i (j : Int), .s g.nm, .b g.dr, .l g.N, .l g.E, .l g.C] = _
      simp only [lpV1, errLp, Int.toNat_natCast]
      rw [← h0]
      exact scan_hit hlt (by simp only [er, h0]; simpa using hz)
    have hpre : prClu [.s g.nm, .b g.dr, .l g.N, .l g.E, .l g.C, .i (j : Int)] := ⟨j, rfl, hlt, h16, okC_of hk⟩
    simp (disch := omega) only [rt30_1, VT.ok, Nd.holds, X.outs, X.ds, X.d, Op1.ev, Op2.ev, takeD_zero, takeD_cons, List.cons_append, List.nil_append, List.getD_cons_zero, List.getD_cons_succ, D.int_i, D.bool_b, D.lst_l, Int.toNat_natCast, F49, R49, ↓reduceIte, dlt_t, w64', cluD, cL, cI, Int.toNat_natCast]
    refine ⟨fun _ => hpre, ?_⟩
    by_cases h : cluE g.N g.C j = 0
    · rw [if_neg (by exact bne_f h)]
      exact hN h
    · rw [if_pos (by exact bne_t h)]
      exact hX _ rfl h
  · have hj' : j = g.C.length := by omega
    subst hj'
    simp (disch := omega) only [rt30_1, VT.ok, X.ds, X.d, Op2.ev, List.getD_cons_zero, List.getD_cons_succ, D.int_i, D.bool_b, Bool.false_eq_true, ↓reduceIte, dlt_f]
    refine round_exit (by omega) ?_
    show lpV1 [v, .i (g.C.length : Int), .i (g.C.length : Int), .s g.nm, .b g.dr, .l g.N, .l g.E, .l g.C] = _
    simp only [lpV1, errLp, Int.toNat_natCast]
    exact scan_end
theorem loopM20_1 : LoopMeets Try.prog F (R L20_1.key) L20_1 lb20_1 := by
  refine loop_meets (pre := R) mixed (sgAt_all (P := Try.prog) (pre := R) (Φ := F) (l := sg20) (List.forall_mem_cons.2 ⟨Meets.at (pre := R) (Φ := F) m38, List.forall_mem_cons.2 ⟨Meets.at (pre := R) (Φ := F) m39, List.forall_mem_cons.2 ⟨Meets.at (pre := R) (Φ := F) m40, List.forall_mem_cons.2 ⟨Meets.at (pre := R) (Φ := F) m41, (fun _ h => nomatch h)⟩⟩⟩⟩)) (loops_n 0 lk20_1 fun k hk => by omega) L20_1 (fun ρ => (((ρ.getD 6 default).lst.length : Int) - (ρ.getD 1 default).int).toNat) le20_1 fun ρ _ hq => ?_
  obtain ⟨v, g, j, rfl, hj, h16, hk⟩ : prW1 ρ := hq
  by_cases hlt : j < g.C.length
  · have hN : cluE g.N g.C j = 0 → RoundOk F (R L20_1.key) (fun ρ => (((ρ.getD 6 default).lst.length : Int) - (ρ.getD 1 default).int).toNat) L20_1 [v, .i (j : Int), .s g.nm, .b g.dr, .l g.N, .l g.E, .l g.C] [.i (-1), v, .i ((j + 1 : Nat) : Int)] := fun h0 => by
      refine round_next ⟨⟨v, g, j + 1, rfl, by omega, h16, by intro k hk'; rcases Nat.lt_or_ge k j with e | e; exact hk k e; rw [show k = j by omega]; exact h0⟩, ?_, ?_⟩
      · show ((g.C.length : Int) - ((j + 1 : Nat) : Int)).toNat < ((g.C.length : Int) - (j : Int)).toNat
        omega
      · show lpW1 [v, .i ((j + 1 : Nat) : Int), .s g.nm, .b g.dr, .l g.N, .l g.E, .l g.C] = lpW1 [v, .i (j : Int), .s g.nm, .b g.dr, .l g.N, .l g.E, .l g.C]
        simp only [lpW1, errLp, Int.toNat_natCast]
        exact scan_next hlt (by simp only [er, h0]; rfl)
    have hX : ∀ z : Int, cluE g.N g.C j = z → z ≠ 0 → RoundOk F (R L20_1.key) (fun ρ => (((ρ.getD 6 default).lst.length : Int) - (ρ.getD 1 default).int).toNat) L20_1 [v, .i (j : Int), .s g.nm, .b g.dr, .l g.N, .l g.E, .l g.C] [.i 0, .i z, .i (j : Int)] := fun z h0 hz => by
      refine round_exit (by omega) ?_
      show lpW1 [v, .i (j : Int), .s g.nm, .b g.dr, .l g.N, .l g.E, .l g.C] = _
      simp only [lpW1, errLp, Int.toNat_natCast]
      rw [← h0]
      exact scan_hit hlt (by simp only [er, h0]; simpa using hz)
    have hpre : prClu [.s g.nm, .b g.dr, .l g.N, .l g.E, .l g.C, .i (j : Int)] := ⟨j, rfl, hlt, h16, okC_of hk⟩
    simp (disch := omega) only [rt20_1, VT.ok, Nd.holds, X.outs, X.ds, X.d, Op1.ev, Op2.ev, takeD_zero, takeD_cons, List.cons_append, List.nil_append, List.getD_cons_zero, List.getD_cons_succ, D.int_i, D.bool_b, D.lst_l, Int.toNat_natCast, F40, R40, ↓reduceIte, dlt_t, w64', cluD, cL, cI, Int.toNat_natCast]
    refine ⟨fun _ => hpre, ?_⟩
    by_cases h : cluE g.N g.C j = 0
    · rw [if_neg (by exact bne_f h)]
      exact hN h
    · rw [if_pos (by exact bne_t h)]
      exact hX _ rfl h
  · have hj' : j = g.C.length := by omega
    subst hj'
    simp (disch := omega) only [rt20_1, VT.ok, X.ds, X.d, Op1.ev, Op2.ev, List.getD_cons_zero, List.getD_cons_succ, D.int_i, D.bool_b, D.lst_l, Bool.false_eq_true, ↓reduceIte, dlt_f]
    refine round_exit (by omega) ?_
    show lpW1 [v, .i (g.C.length : Int), .s g.nm, .b g.dr, .l g.N, .l g.E, .l g.C] = _
    simp only [lpW1, errLp, Int.toNat_natCast]
    exact scan_end
theorem loopM30_2 : LoopMeets Try.prog F (R L30_2.key) L30_2 lb30_2 := by
  refine loop_meets (pre := R) mixed (sgAt_all (P := Try.prog) (pre := R) (Φ := F) (l := sg30) (List.forall_mem_cons.2 ⟨Meets.at (pre := R) (Φ := F) m47, List.forall_mem_cons.2 ⟨Meets.at (pre := R) (Φ := F) m48, List.forall_mem_cons.2 ⟨Meets.at (pre := R) (Φ := F) m49, List.forall_mem_cons.2 ⟨Meets.at (pre := R) (Φ := F) m50, (fun _ h => nomatch h)⟩⟩⟩⟩)) (loops_n 0 lk30_2 fun k hk => by omega) L30_2 (fun ρ => ((ρ.getD 2 default).int - (ρ.getD 3 default).int).toNat) le30_2 fun ρ _ hq => ?_
  obtain ⟨v, g, j, rfl, hj, hm⟩ : prV2 ρ := hq
  rw [maxLen_val] at hm
  by_cases hlt : j < g.E.length
  · have hN : edgeE g.N (el g.E j) = 0 → RoundOk F (R L30_2.key) (fun ρ => ((ρ.getD 2 default).int - (ρ.getD 3 default).int).toNat) L30_2 [v, .l g.E, .i (g.E.length : Int), .i (j : Int), .s g.nm, .b g.dr, .l g.N, .l g.E, .l g.C] [.i (-1), v, .i ((j + 1 : Nat) : Int)] := fun h0 => by
      refine round_next ⟨⟨v, g, j + 1, rfl, by omega, hm⟩, ?_, ?_⟩
      · show ((g.E.length : Int) - ((j + 1 : Nat) : Int)).toNat < ((g.E.length : Int) - (j : Int)).toNat
        omega
      · show lpV2 [v, .l g.E, .i (g.E.length : Int), .i ((j + 1 : Nat) : Int), .s g.nm, .b g.dr, .l g.N, .l g.E, .l g.C] = lpV2 [v, .l g.E, .i (g.E.length : Int), .i (j : Int), .s g.nm, .b g.dr, .l g.N, .l g.E, .l g.C]
        simp only [lpV2, errLp, Int.toNat_natCast]
        exact scan_next hlt (by simp only [er, h0]; rfl)
    have hX : ∀ z : Int, edgeE g.N (el g.E j) = z → z ≠ 0 → RoundOk F (R L30_2.key) (fun ρ => ((ρ.getD 2 default).int - (ρ.getD 3 default).int).toNat) L30_2 [v, .l g.E, .i (g.E.length : Int), .i (j : Int), .s g.nm, .b g.dr, .l g.N, .l g.E, .l g.C] [.i 0, .i z, .i (j : Int)] := fun z h0 hz => by
      refine round_exit (by omega) ?_
      show lpV2 [v, .l g.E, .i (g.E.length : Int), .i (j : Int), .s g.nm, .b g.dr, .l g.N, .l g.E, .l g.C] = _
      simp only [lpV2, errLp, Int.toNat_natCast]
      rw [← h0]
      exact scan_hit hlt (by simp only [er, h0]; simpa using hz)
    simp (disch := omega) only [rt30_2, VT.ok, Nd.holds, X.outs, X.ds, X.d, Op1.ev, Op2.ev, takeD_zero, takeD_cons, List.cons_append, List.nil_append, List.getD_cons_zero, List.getD_cons_succ, D.int_i, D.bool_b, D.lst_l, Int.toNat_natCast, implies_true, true_and, F50, R50, ↓reduceIte, dle_t, dlt_t, w64', edgeD7, Int.toNat_natCast]
    by_cases h : edgeE g.N (el g.E j) = 0
    · rw [if_neg (by exact bne_f h)]
      exact hN h
    · rw [if_pos (by exact bne_t h)]
      exact hX _ rfl h
  · have hj' : j = g.E.length := by omega
    subst hj'
    simp (disch := omega) only [rt30_2, VT.ok, X.ds, X.d, Op2.ev, List.getD_cons_zero, List.getD_cons_succ, D.int_i, D.bool_b, Bool.false_eq_true, ↓reduceIte, dlt_f]
    refine round_exit (by omega) ?_
    show lpV2 [v, .l g.E, .i (g.E.length : Int), .i (g.E.length : Int), .s g.nm, .b g.dr, .l g.N, .l g.E, .l g.C] = _
    simp only [lpV2, errLp, Int.toNat_natCast]
    exact scan_end
theorem loopM20_2 : LoopMeets Try.prog F (R L20_2.key) L20_2 lb20_2 := by
  refine loop_meets (pre := R) mixed (sgAt_all (P := Try.prog) (pre := R) (Φ := F) (l := sg20) (List.forall_mem_cons.2 ⟨Meets.at (pre := R) (Φ := F) m38, List.forall_mem_cons.2 ⟨Meets.at (pre := R) (Φ := F) m39, List.forall_mem_cons.2 ⟨Meets.at (pre := R) (Φ := F) m40, List.forall_mem_cons.2 ⟨Meets.at (pre := R) (Φ := F) m41, (fun _ h => nomatch h)⟩⟩⟩⟩)) (loops_n 0 lk20_2 fun k hk => by omega) L20_2 (fun ρ => (((ρ.getD 5 default).lst.length : Int) - (ρ.getD 1 default).int).toNat) le20_2 fun ρ _ hq => ?_
  obtain ⟨v, g, j, rfl, hj, hm⟩ : prW2 ρ := hq
  rw [maxLen_val] at hm
  by_cases hlt : j < g.E.length
  · have hN : edgeE g.N (el g.E j) = 0 → RoundOk F (R L20_2.key) (fun ρ => (((ρ.getD 5 default).lst.length : Int) - (ρ.getD 1 default).int).toNat) L20_2 [v, .i (j : Int), .s g.nm, .b g.dr, .l g.N, .l g.E, .l g.C] [.i (-1), v, .i ((j + 1 : Nat) : Int)] := fun h0 => by
      refine round_next ⟨⟨v, g, j + 1, rfl, by omega, hm⟩, ?_, ?_⟩
      · show ((g.E.length : Int) - ((j + 1 : Nat) : Int)).toNat < ((g.E.length : Int) - (j : Int)).toNat
        omega
      · show lpW2 [v, .i ((j + 1 : Nat) : Int), .s g.nm, .b g.dr, .l g.N, .l g.E, .l g.C] = lpW2 [v, .i (j : Int), .s g.nm, .b g.dr, .l g.N, .l g.E, .l g.C]
        simp only [lpW2, errLp, Int.toNat_natCast]
        exact scan_next hlt (by simp only [er, h0]; rfl)
    have hX : ∀ z : Int, edgeE g.N (el g.E j) = z → z ≠ 0 → RoundOk F (R L20_2.key) (fun ρ => (((ρ.getD 5 default).lst.length : Int) - (ρ.getD 1 default).int).toNat) L20_2 [v, .i (j : Int), .s g.nm, .b g.dr, .l g.N, .l g.E, .l g.C] [.i 0, .i z, .i (j : Int)] := fun z h0 hz => by
      refine round_exit (by omega) ?_
      show lpW2 [v, .i (j : Int), .s g.nm, .b g.dr, .l g.N, .l g.E, .l g.C] = _
      simp only [lpW2, errLp, Int.toNat_natCast]
      rw [← h0]
      exact scan_hit hlt (by simp only [er, h0]; simpa using hz)
    simp (disch := omega) only [rt20_2, VT.ok, Nd.holds, X.outs, X.ds, X.d, Op1.ev, Op2.ev, takeD_zero, takeD_cons, List.cons_append, List.nil_append, List.getD_cons_zero, List.getD_cons_succ, D.int_i, D.bool_b, D.lst_l, Int.toNat_natCast, implies_true, true_and, F41, R41, ↓reduceIte, dle_t, dlt_t, w64', edgeD7, Int.toNat_natCast]
    by_cases h : edgeE g.N (el g.E j) = 0
    · rw [if_neg (by exact bne_f h)]
      exact hN h
    · rw [if_pos (by exact bne_t h)]
      exact hX _ rfl h
  · have hj' : j = g.E.length := by omega
    subst hj'
    simp (disch := omega) only [rt20_2, VT.ok, X.ds, X.d, Op1.ev, Op2.ev, List.getD_cons_zero, List.getD_cons_succ, D.int_i, D.bool_b, D.lst_l, Bool.false_eq_true, ↓reduceIte, dlt_f]
    refine round_exit (by omega) ?_
    show lpW2 [v, .i (g.E.length : Int), .s g.nm, .b g.dr, .l g.N, .l g.E, .l g.C] = _
    simp only [lpW2, errLp, Int.toNat_natCast]
    exact scan_end
theorem m30 : Meets Try.prog 30 S30 (R 30) (F 30) := by
  refine meets_of_vt (pre := R) (Φ := F) mixed (sgAt_all (P := Try.prog) (pre := R) (Φ := F) (l := sg30) (List.forall_mem_cons.2 ⟨Meets.at (pre := R) (Φ := F) m47, List.forall_mem_cons.2 ⟨Meets.at (pre := R) (Φ := F) m48, List.forall_mem_cons.2 ⟨Meets.at (pre := R) (Φ := F) m49, List.forall_mem_cons.2 ⟨Meets.at (pre := R) (Φ := F) m50, (fun _ h => nomatch h)⟩⟩⟩⟩)) Try.func30 b30 n30 (loops_n 3 k30 fun k hk => match k, hk with | 0, _ => loop_this lf30_0 loopM30_0 | 1, _ => loop_this lf30_1 loopM30_1 | 2, _ => loop_this lf30_2 loopM30_2) e30 fun ds hf hq => ?_
  obtain ⟨g, ds', rfl, h5, hnm, ⟨hmN, _⟩, ⟨hmE, _⟩, ⟨hmC, _⟩⟩ := fitsG hf.flat
  have e0 := fits0 h5
  subst e0
  have hF : F 30 [.s g.nm, .b g.dr, .l g.N, .l g.E, .l g.C] = [.i (validE g)] := rfl
  rw [hF]
  generalize hv : validE g = res
  unfold validE at hv
  by_cases h0 : 64 < (g.N.length : Int) ∨ 256 < (g.E.length : Int) ∨ 16 < (g.C.length : Int)
  · rw [if_pos h0] at hv
    have hc : ((decide (64 < (g.N.length : Int)) || decide (256 < (g.E.length : Int))) || decide (16 < (g.C.length : Int))) = true := by
      simp only [Bool.or_eq_true, decide_eq_true_eq]
      omega
    simp only [vt30, VT.ok, Nd.holds, X.outs, X.ds, X.d, Op1.ev, Op2.ev, List.cons_append, List.nil_append, List.getD_cons_zero, List.getD_cons_succ, D.int_i, D.bool_b, D.lst_l, ite_b, ite_or, if_true, takeD1_0, hc]
    rw [hv]
  · rw [if_neg h0] at hv
    have p0 : prV0 [.i 0, .i (g.N.length : Int), .i 0, .s g.nm, .b g.dr, .l g.N, .l g.E, .l g.C] := ⟨_, g, 0, rfl, by omega, hmN⟩
    have p1 : ∀ v, prV1 [v, .i (g.C.length : Int), .i 0, .s g.nm, .b g.dr, .l g.N, .l g.E, .l g.C] := fun v => ⟨_, g, 0, rfl, by omega, by omega, fun k hk => by omega⟩
    have p2 : ∀ v, prV2 [v, .l g.E, .i (g.E.length : Int), .i 0, .s g.nm, .b g.dr, .l g.N, .l g.E, .l g.C] := fun v => ⟨_, g, 0, rfl, by omega, hmE⟩
    simp (disch := omega) only [vt30, VT.ok, Nd.holds, X.outs, X.ds, X.d, Op1.ev, Op2.ev, takeD_zero, takeD_cons, List.cons_append, List.nil_append, List.getD_cons_zero, List.getD_cons_succ, D.int_i, D.bool_b, D.lst_l, D.str_s, Bool.false_eq_true, implies_true, true_and, F47, R47, F13000, R13000, F13001, R13001, F13002, R13002, ↓reduceIte, dlt_f, nameD, cS, lpV0, lpV1, lpV2, Int.toNat_zero]
    cases h1 : isName g.nm
    · rw [h1] at hv
      simp only [Bool.not_false, if_true]
      rw [← hv]; rfl
    · rw [h1] at hv
      simp only [if_true, Bool.not_true, Bool.false_eq_true, if_false] at hv ⊢
      refine ⟨fun _ => p0, ?_⟩
      rcases errLp_two (nodeE g.N g.C) (.i 0) g.N.length with ⟨h2, h3⟩ | ⟨h2, _, h3⟩
      · rw [if_neg h2] at hv
        simp only [h3, takeD_zero, takeD_cons, List.getD_cons_zero, List.getD_cons_succ, D.int_i, ↓reduceIte, beq_t]
        rw [hv]
      · rw [if_pos h2] at hv
        simp only [h3, takeD_zero, takeD_cons, List.cons_append, List.nil_append, List.getD_cons_zero, List.getD_cons_succ, D.int_i]
        rw [if_neg (by decide)]
        refine ⟨fun _ => p1 _, ?_⟩
        rcases errLp_two (cluE g.N g.C) (.i 0) g.C.length with ⟨h4, h5⟩ | ⟨h4, _, h5⟩
        · rw [if_neg h4] at hv
          simp only [h5, takeD_zero, takeD_cons, List.cons_append, List.nil_append, List.getD_cons_zero, List.getD_cons_succ, D.int_i]
          rw [if_pos (by rfl), hv]
        · rw [if_pos h4] at hv
          simp only [h5, takeD_zero, takeD_cons, List.cons_append, List.nil_append, List.getD_cons_zero, List.getD_cons_succ, D.int_i]
          rw [if_neg (by decide)]
          refine ⟨fun _ => p2 _, ?_⟩
          rcases errLp_two (fun j => edgeE g.N (el g.E j)) (.i 0) g.E.length with ⟨h6, h7⟩ | ⟨h6, _, h7⟩
          · simp only [h7, takeD_zero, takeD_cons, List.getD_cons_zero, List.getD_cons_succ, D.int_i]
            rw [if_pos (by rfl), hv]
          · simp only [h7, takeD_zero, takeD_cons, List.getD_cons_zero, List.getD_cons_succ, D.int_i]
            rw [if_neg (by decide), ← hv, h6]
theorem m20 : Meets Try.prog 20 S20 (R 20) (F 20) := by
  refine meets_of_vt (pre := R) (Φ := F) mixed (sgAt_all (P := Try.prog) (pre := R) (Φ := F) (l := sg20) (List.forall_mem_cons.2 ⟨Meets.at (pre := R) (Φ := F) m38, List.forall_mem_cons.2 ⟨Meets.at (pre := R) (Φ := F) m39, List.forall_mem_cons.2 ⟨Meets.at (pre := R) (Φ := F) m40, List.forall_mem_cons.2 ⟨Meets.at (pre := R) (Φ := F) m41, (fun _ h => nomatch h)⟩⟩⟩⟩)) Try.func20 b20 n20 (loops_n 3 k20 fun k hk => match k, hk with | 0, _ => loop_this lf20_0 loopM20_0 | 1, _ => loop_this lf20_1 loopM20_1 | 2, _ => loop_this lf20_2 loopM20_2) e20 fun ds hf hq => ?_
  obtain ⟨g, ds', rfl, h5, hnm, ⟨hmN, _⟩, ⟨hmE, _⟩, ⟨hmC, _⟩⟩ := fitsG hf.flat
  have e0 := fits0 h5
  subst e0
  have hF : F 20 [.s g.nm, .b g.dr, .l g.N, .l g.E, .l g.C] = [.i (validE g)] := rfl
  rw [hF]
  generalize hv : validE g = res
  unfold validE at hv
  by_cases h0 : 64 < (g.N.length : Int) ∨ 256 < (g.E.length : Int) ∨ 16 < (g.C.length : Int)
  · rw [if_pos h0] at hv
    have hc : ((decide (64 < (g.N.length : Int)) || decide (256 < (g.E.length : Int))) || decide (16 < (g.C.length : Int))) = true := by
      simp only [Bool.or_eq_true, decide_eq_true_eq]
      omega
    simp only [vt20, VT.ok, Nd.holds, X.outs, X.ds, X.d, Op1.ev, Op2.ev, List.cons_append, List.nil_append, List.getD_cons_zero, List.getD_cons_succ, D.int_i, D.bool_b, D.lst_l, ite_b, ite_or, if_true, takeD1_0, hc]
    rw [hv]
  · rw [if_neg h0] at hv
    have p0 : prW0 [.i 0, .i 0, .s g.nm, .b g.dr, .l g.N, .l g.E, .l g.C] := ⟨_, g, 0, rfl, by omega, hmN⟩
    have p1 : ∀ v, prW1 [v, .i 0, .s g.nm, .b g.dr, .l g.N, .l g.E, .l g.C] := fun v => ⟨_, g, 0, rfl, by omega, by omega, fun k hk => by omega⟩
    have p2 : ∀ v, prW2 [v, .i 0, .s g.nm, .b g.dr, .l g.N, .l g.E, .l g.C] := fun v => ⟨_, g, 0, rfl, by omega, hmE⟩
    simp (disch := omega) only [vt20, VT.ok, Nd.holds, X.outs, X.ds, X.d, Op1.ev, Op2.ev, takeD_zero, takeD_cons, List.cons_append, List.nil_append, List.getD_cons_zero, List.getD_cons_succ, D.int_i, D.bool_b, D.lst_l, D.str_s, Bool.false_eq_true, implies_true, true_and, F38, R38, F12000, R12000, F12001, R12001, F12002, R12002, ↓reduceIte, dlt_f, nameD, cS, lpW0, lpW1, lpW2, Int.toNat_zero]
    cases h1 : isName g.nm
    · rw [h1] at hv
      simp only [Bool.not_false, if_true]
      rw [← hv]; rfl
    · rw [h1] at hv
      simp only [if_true, Bool.not_true, Bool.false_eq_true, if_false] at hv ⊢
      refine ⟨fun _ => p0, ?_⟩
      rcases errLp_two (nodeE g.N g.C) (.i 0) g.N.length with ⟨h2, h3⟩ | ⟨h2, _, h3⟩
      · rw [if_neg h2] at hv
        simp only [h3, takeD_zero, takeD_cons, List.getD_cons_zero, List.getD_cons_succ, D.int_i, ↓reduceIte, beq_t]
        rw [hv]
      · rw [if_pos h2] at hv
        simp only [h3, takeD_zero, takeD_cons, List.cons_append, List.nil_append, List.getD_cons_zero, List.getD_cons_succ, D.int_i]
        rw [if_neg (by decide)]
        refine ⟨fun _ => p1 _, ?_⟩
        rcases errLp_two (cluE g.N g.C) (.i 0) g.C.length with ⟨h4, h5⟩ | ⟨h4, _, h5⟩
        · rw [if_neg h4] at hv
          simp only [h5, takeD_zero, takeD_cons, List.cons_append, List.nil_append, List.getD_cons_zero, List.getD_cons_succ, D.int_i]
          rw [if_pos (by rfl), hv]
        · rw [if_pos h4] at hv
          simp only [h5, takeD_zero, takeD_cons, List.cons_append, List.nil_append, List.getD_cons_zero, List.getD_cons_succ, D.int_i]
          rw [if_neg (by decide)]
          refine ⟨fun _ => p2 _, ?_⟩
          rcases errLp_two (fun j => edgeE g.N (el g.E j)) (.i 0) g.E.length with ⟨h6, h7⟩ | ⟨h6, _, h7⟩
          · simp only [h7, takeD_zero, takeD_cons, List.getD_cons_zero, List.getD_cons_succ, D.int_i]
            rw [if_pos (by rfl), hv]
          · simp only [h7, takeD_zero, takeD_cons, List.getD_cons_zero, List.getD_cons_succ, D.int_i]
            rw [if_neg (by decide), ← hv, h6]
end Go.Proofs.Ythpppbfiiphgoaa.rv
namespace Go.Proofs.Ythpppbfiiphgoaa.rv
set_option maxRecDepth 10000
open Go.RV
theorem valid_parts {g : Gd} (h : validE g = 0) : (g.N.length ≤ 64 ∧ g.E.length ≤ 256 ∧ g.C.length ≤ 16) ∧ isName g.nm = true ∧ (∀ k, k < g.N.length → nodeE g.N g.C k = 0) ∧ (∀ k, k < g.C.length → cluE g.N g.C k = 0) ∧ ∀ k, k < g.E.length → edgeE g.N (el g.E k) = 0 := by
  unfold validE at h
  split at h
  · omega
  · split at h
    · split at h
      · rename_i h0 h1 h2
        split at h
        · rename_i h3
          exact ⟨by omega, h1, fe_ok.1 h2, fe_ok.1 h3, fe_ok.1 h⟩
        · omega
      · omega
    · omega
theorem node_cl {N C : List (List D)} {i : Nat} (h : nodeE N C i = 0) : -1 ≤ cI (el N i) 4 ∧ cI (el N i) 4 < C.length := by
  unfold nodeE at h
  split at h
  · split at h
    · omega
    · split at h
      · split at h
        · rename_i h1
          simp only [Bool.and_eq_true, Bool.not_eq_true', decide_eq_false_iff_not] at h1
          omega
        · omega
      · omega
  · omega
theorem valid_okV {g : Gd} (h : validE g = 0) : okV g := by
  obtain ⟨⟨h1, _, h3⟩, _, h4, h5, _⟩ := valid_parts h
  exact ⟨h1, h3, okC_of h5, fun v hv => node_cl (h4 v hv)⟩
theorem okV_at {g : Gd} (h : okV g) {c : Int} (h0 : -1 ≤ c) (h1 : c < g.C.length) : atC g.C c := ⟨h0, h1, h.2.1, h.2.2.1.mono (by omega)⟩
theorem valid_c {g : Gd} {c : Int} (h : ¬ (validE g = 0 ∧ -1 ≤ c ∧ c < g.C.length)) : ((!(validE g == 0) || decide (c < -1)) || decide ((g.C.length : Int) ≤ c)) = true := by
  simp only [Bool.or_eq_true, Bool.not_eq_true', beq_eq_false_iff_ne, decide_eq_true_eq]
  omega
theorem valid_c' {g : Gd} {c : Int} (h : validE g = 0 ∧ -1 ≤ c ∧ c < g.C.length) : ((!(validE g == 0) || decide (c < -1)) || decide ((g.C.length : Int) ≤ c)) = false := by
  simp only [Bool.or_eq_false_iff, Bool.not_eq_false', beq_iff_eq, decide_eq_false_iff_not]
  omega
theorem gOf_eq (g : Gd) (l : List D) : gOf (.s g.nm :: .b g.dr :: .l g.N :: .l g.E :: .l g.C :: l) = g := rfl
theorem m53 : Meets Try.prog 53 S53 (R 53) (F 53) := by
  refine meets_of_vt (pre := R) (Φ := F) mixed (sgAt_all (P := Try.prog) (pre := R) (Φ := F) (l := sg53) (List.forall_mem_cons.2 ⟨Meets.at (pre := R) (Φ := F) m30, List.forall_mem_cons.2 ⟨Meets.at (pre := R) (Φ := F) m72, (fun _ h => nomatch h)⟩⟩)) Try.func53 b53 n53 (loops_n 0 k53 fun k hk => by omega) e53 fun ds hf hq => ?_
  obtain ⟨g, ds', rfl, h5, _⟩ := fitsG hf.flat
  obtain ⟨x, rfl, hx⟩ := fits1 h5
  obtain ⟨c, rfl, _⟩ := wf_i64 hx
  by_cases h : validE g = 0 ∧ -1 ≤ c ∧ c < g.C.length
  · have hat : atC g.C c := okV_at (valid_okV h.1) h.2.1 h.2.2
    simp only [vt53, VT.ok, Nd.holds, X.outs, X.ds, X.d, Op1.ev, Op2.ev, takeD_zero, takeD_cons, List.cons_append, List.nil_append, List.getD_cons_zero, List.getD_cons_succ, D.int_i, D.bool_b, D.lst_l, ite_b, ite_or, Bool.false_eq_true, if_false, implies_true, true_and, and_true, F72, R72, F30, R30, F53, validD, gOf_eq, valid_c' h, depED, depE, depthD, if_pos h, cI, cL]
    exact fun _ => hat
  · simp only [vt53, VT.ok, Nd.holds, X.outs, X.ds, X.d, Op1.ev, Op2.ev, takeD_zero, takeD_cons, List.cons_append, List.nil_append, List.getD_cons_zero, List.getD_cons_succ, D.int_i, D.bool_b, D.lst_l, ite_b, ite_or, if_true, implies_true, and_true, takeD1_0, F72, R72, F30, R30, F53, validD, gOf_eq, valid_c h, depED, depE, if_neg h, cI]
end Go.Proofs.Ythpppbfiiphgoaa.rv
namespace Go.Proofs.Ythpppbfiiphgoaa.rv
set_option maxRecDepth 10000
open Go.RV
theorem few_w {n : Int} {j : Nat} (h0 : 0 ≤ n) (h1 : n ≤ j) (hj : (j : Int) < 9223372036854775807) : IntKind.i64.wrap (n + 1) = n + 1 := w64 (by omega)
theorem fewS_next {I : List (List D)} {j : Nat} (h : j < I.length) (n : Int) (hx : fewX I j n = false) : fewS I (I.length - j) j n = fewS I (I.length - (j + 1)) (j + 1) (fewJ I j n) := by
  have e : I.length - j = (I.length - (j + 1)) + 1 := by omega
  rw [e, fewS, hx, if_neg (by decide)]
theorem fewS_hit {I : List (List D)} {j : Nat} (h : j < I.length) (n : Int) (hx : fewX I j n = true) : fewS I (I.length - j) j n = (false, fewJ I j n, j) := by
  have e : I.length - j = (I.length - (j + 1)) + 1 := by omega
  rw [e, fewS, hx, if_pos rfl]
theorem loopM9_0 : LoopMeets Try.prog F (R L9_0.key) L9_0 lb9_0 := by
  refine loop_meets (pre := R) mixed (sgAt_all (P := Try.prog) (pre := R) (Φ := F) (l := sg9) ((fun _ h => nomatch h))) (loops_n 0 lk9_0 fun k hk => by omega) L9_0 (fun ρ => (((ρ.getD 7 default).lst.length : Int) - (ρ.getD 2 default).int).toNat) le9_0 fun ρ _ hq => ?_
  obtain ⟨v, n, j, a, b, c, d, I, rfl, hj, hm, hn0, hn1⟩ : prFw ρ := hq
  rw [maxLen_val] at hm
  by_cases hlt : j < I.length
  · have hX : fewX I j n = true → RoundOk F (R L9_0.key) (fun ρ => (((ρ.getD 7 default).lst.length : Int) - (ρ.getD 2 default).int).toNat) L9_0 [v, .i n, .i (j : Int), a, b, c, d, .l I] [.i 0, .b false, .i (fewJ I j n), .i (j : Int)] := fun hx => by
      refine round_exit (by omega) ?_
      show lpFw [v, .i n, .i (j : Int), a, b, c, d, .l I] = _
      simp only [lpFw, Int.toNat_natCast, fewS_hit hlt n hx, fewO]
      rfl
    have hN : fewX I j n = false → RoundOk F (R L9_0.key) (fun ρ => (((ρ.getD 7 default).lst.length : Int) - (ρ.getD 2 default).int).toNat) L9_0 [v, .i n, .i (j : Int), a, b, c, d, .l I] [.i (-1), v, .i (fewJ I j n), .i ((j + 1 : Nat) : Int)] := fun hx => by
      refine round_next ⟨⟨v, fewJ I j n, j + 1, a, b, c, d, I, rfl, by omega, hm, ?_, ?_⟩, ?_, ?_⟩
      · unfold fewJ; split <;> omega
      · unfold fewJ; split <;> omega
      · show ((I.length : Int) - ((j + 1 : Nat) : Int)).toNat < ((I.length : Int) - (j : Int)).toNat
        omega
      · show lpFw [v, .i (fewJ I j n), .i ((j + 1 : Nat) : Int), a, b, c, d, .l I] = lpFw [v, .i n, .i (j : Int), a, b, c, d, .l I]
        simp only [lpFw, Int.toNat_natCast, fewS_next hlt n hx]
    have c0 : decide ((0 : Int) ≤ (j : Int)) = true := decide_eq_true (by omega)
    have c1 : decide ((j : Int) < (I.length : Int)) = true := decide_eq_true (by omega)
    have c2 : IntKind.i64.wrap ((j : Int) + 1) = ((j + 1 : Nat) : Int) := nat_wrap (by omega)
    have c3 : IntKind.i64.wrap (n + 1) = n + 1 := few_w hn0 hn1 (by omega)
    simp only [rt9_0, VT.ok, Nd.holds, X.ds, X.d, Op1.ev, Op2.ev, List.getD_cons_zero, List.getD_cons_succ, D.int_i, D.bool_b, D.lst_l, ite_b, ite_or, Int.toNat_natCast, if_true, implies_true, true_and, c0, c1, c2, c3]
    by_cases hp : 0 < (((I.getD j []).getD 6 default).lst.length : Int)
    · have hJ : fewJ I j n = n + 1 := if_pos hp
      rw [decide_eq_true hp, if_pos rfl]
      rw [← hJ]
      show if fewX I j n = true then _ else _
      cases hx : fewX I j n
      · rw [if_neg (by decide)]; exact hN hx
      · rw [if_pos rfl]; exact hX hx
    · have hJ : fewJ I j n = n := if_neg hp
      rw [decide_eq_false hp, if_neg (by decide)]
      have hx' : fewX I j n = (decide (60 < n) || decide (600 < (((I.getD j []).getD 6 default).lst.length : Int)) || decide (200 < (((I.getD j []).getD 7 default).str.size : Int))) := by
        unfold fewX; rw [hJ]
      rw [← hx']
      rw [hJ] at hX hN
      cases hx : fewX I j n
      · rw [if_neg (by decide)]; exact hN hx
      · rw [if_pos rfl]; exact hX hx
  · have hj' : j = I.length := by omega
    subst hj'
    simp (disch := omega) only [rt9_0, VT.ok, X.ds, X.d, Op1.ev, Op2.ev, List.getD_cons_zero, List.getD_cons_succ, D.int_i, D.bool_b, D.lst_l, Bool.false_eq_true, ↓reduceIte, dlt_f]
    refine round_exit (by omega) ?_
    show lpFw [v, .i n, .i (I.length : Int), a, b, c, d, .l I] = _
    simp only [lpFw, Int.toNat_natCast, Nat.sub_self, fewS, fewO, if_true]
theorem m9 : Meets Try.prog 9 S9 (R 9) (F 9) := by
  refine meets_of_vt (pre := R) (Φ := F) mixed (sgAt_all (P := Try.prog) (pre := R) (Φ := F) (l := sg9) ((fun _ h => nomatch h))) Try.func9 b9 n9 (loops_n 1 k9 fun k hk => match k, hk with | 0, _ => loop_this lf9_0 loopM9_0) e9 fun ds hf _ => ?_
  obtain ⟨a, b, c, d, I, ds', rfl, h5, hm, hfx⟩ := fitsS hf.flat
  obtain rfl := fits0 h5
  have hval : fewD [.i a, .i b, .i c, .i d, .l I] = [.b (fewB I)] := rfl
  rw [show F 9 = fewD from rfl, hval]
  have hpre : prFw [.b false, .i 0, .i 0, .i a, .i b, .i c, .i d, .l I] := ⟨_, 0, 0, _, _, _, _, I, rfl, by omega, hm, by omega, by omega⟩
  have hlp : lpFw [.b false, .i 0, .i 0, .i a, .i b, .i c, .i d, .l I] = fewO (.b false) (fewS I I.length 0 0) := rfl
  by_cases h1 : 2100 < (I.length : Int)
  · simp (disch := omega) only [vt9, VT.ok, X.ds, X.d, Op1.ev, Op2.ev, List.getD_cons_zero, List.getD_cons_succ, D.int_i, D.bool_b, D.lst_l, ↓reduceIte, fewB, decide_eq_true h1, Bool.not_true, Bool.false_and]
  · obtain ⟨⟨r1, r2, r3⟩, hr⟩ : ∃ q, fewS I I.length 0 0 = q := ⟨_, rfl⟩
    simp (disch := omega) only [vt9, VT.ok, Nd.holds, X.outs, X.ds, X.d, Op1.ev, Op2.ev, List.cons_append, List.nil_append, List.getD_cons_zero, List.getD_cons_succ, D.int_i, D.bool_b, D.lst_l, Bool.false_eq_true, F10900, R10900, ↓reduceIte, fewB, decide_eq_false h1, Bool.not_false, Bool.true_and, hlp, hr, fewO]
    refine ⟨fun _ => hpre, ?_⟩
    cases r1
    · exact (rfl : [D.b false] = [D.b false])
    · exact (rfl : [D.b true] = [D.b true])
end Go.Proofs.Ythpppbfiiphgoaa.rv
namespace Go.Proofs.Ythpppbfiiphgoaa.rv
set_option maxRecDepth 10000
open Go.RV
theorem fn36_eq (a b c d x y : Int) : fn36 [.i a, .i b, .i c, .i d, .i x, .i y] = [.i (mvQ x y (a, b, c, d)).1, .i (mvQ x y (a, b, c, d)).2.1, .i (mvQ x y (a, b, c, d)).2.2.1, .i (mvQ x y (a, b, c, d)).2.2.2] := by
  simp only [fn36, vt36, VT.val, X.ds, X.d, Op2.ev, List.getD_cons_zero, List.getD_cons_succ, D.int_i]
  rfl
theorem clone_pre {xs : List (List D)} (h : xs.length ≤ 512) : clonePreP [.l xs] := ⟨xs, rfl, by omega⟩
theorem loopM18_1 : LoopMeets Try.prog F (R L18_1.key) L18_1 lb18_1 := by
  refine loop_meets (pre := R) mixed (sgAt_all (P := Try.prog) (pre := R) (Φ := F) (l := sg18) (List.forall_mem_cons.2 ⟨Meets.at (pre := R) (Φ := F) m11, List.forall_mem_cons.2 ⟨Meets.at (pre := R) (Φ := F) m36, List.forall_mem_cons.2 ⟨Meets.at (pre := R) (Φ := F) m35, List.forall_mem_cons.2 ⟨Meets.at (pre := R) (Φ := F) m32, (fun _ h => nomatch h)⟩⟩⟩⟩)) (loops_n 0 lk18_1 fun k hk => by omega) L18_1 (fun ρ => (((ρ.getD 11 default).lst.length : Int) - (ρ.getD 3 default).int).toNat) le18_1 fun ρ _ hq => ?_
  obtain ⟨dx, dy, x4, x5, x6, x7, x8, x9, x10, ps, j, rfl, hj, hm, hp⟩ : prM1 ρ := hq
  by_cases hlt : j < ps.length
  · obtain ⟨u, v, e⟩ := hp _ (getD_mem [] hlt)
    obtain ⟨k1, k2, k3⟩ := upd2 hlt e (wr (u + dx))
    have c0 : decide ((0 : Int) ≤ (j : Int)) = true := decide_eq_true (by omega)
    have c1 : decide ((j : Int) < (ps.length : Int)) = true := decide_eq_true (by omega)
    have c2 : IntKind.i64.wrap ((j : Int) + 1) = ((j + 1 : Nat) : Int) := nat_wrap (by omega)
    have e0 : ((ps.getD j []).getD 0 default).int = u := by rw [e]; rfl
    have e1 : (([D.i (wr (u + dx)), D.i v] : List D).getD 1 default).int = v := rfl
    have k4 := k3 (wr (v + dy))
    simp only [rt18_1, VT.ok, Nd.holds, X.ds, X.d, Op1.ev, Op2.ev, List.getD_cons_zero, List.getD_cons_succ, D.int_i, D.bool_b, D.lst_l, Int.toNat_natCast, if_true, implies_true, true_and, List.length_set, c0, c1, c2, e0, k1, k2, k4]
    refine round_next ⟨⟨dx, dy, x4, x5, x6, x7, x8, x9, x10, ps.set j [.i (wr (u + dx)), .i (wr (v + dy))], j + 1, by rw [List.length_set]; rfl, by rw [List.length_set]; omega, by rw [List.length_set]; exact hm, fun p hpm => ?_⟩, ?_, ?_⟩
    · rcases List.mem_or_eq_of_mem_set hpm with h | h
      · exact hp p h
      · exact ⟨_, _, h⟩
    · show (((ps.set j _).length : Int) - ((j + 1 : Nat) : Int)).toNat < ((ps.length : Int) - (j : Int)).toNat
      rw [List.length_set]
      omega
    · show lpM1 [.i dx, .i dy, .i (ps.length : Int), .i ((j + 1 : Nat) : Int), x4, x5, x6, x7, x8, x9, x10, .l (ps.set j [.i (wr (u + dx)), .i (wr (v + dy))])] = lpM1 [.i dx, .i dy, .i (ps.length : Int), .i (j : Int), x4, x5, x6, x7, x8, x9, x10, .l ps]
      have eA : lpM1 [.i dx, .i dy, .i (ps.length : Int), .i ((j + 1 : Nat) : Int), x4, x5, x6, x7, x8, x9, x10, .l (ps.set j [.i (wr (u + dx)), .i (wr (v + dy))])] = [.i 0, .i ((ps.set j [.i (wr (u + dx)), .i (wr (v + dy))]).length : Int), .l ((ps.set j [.i (wr (u + dx)), .i (wr (v + dy))]).take (j + 1) ++ ((ps.set j [.i (wr (u + dx)), .i (wr (v + dy))]).drop (j + 1)).map (mvP dx dy))] := rfl
      have eB : lpM1 [.i dx, .i dy, .i (ps.length : Int), .i (j : Int), x4, x5, x6, x7, x8, x9, x10, .l ps] = [.i 0, .i (ps.length : Int), .l (ps.take j ++ (ps.drop j).map (mvP dx dy))] := rfl
      rw [eA, eB, List.length_set, mv_step hlt e]
  · have hj' : j = ps.length := by omega
    subst hj'
    simp (disch := omega) only [rt18_1, VT.ok, X.ds, X.d, Op2.ev, List.getD_cons_zero, List.getD_cons_succ, D.int_i, D.bool_b, Bool.false_eq_true, ↓reduceIte, dlt_f]
    refine round_exit (by omega) ?_
    show ([.i 0, .i (ps.length : Int), .l (ps.take ps.length ++ (ps.drop ps.length).map (mvP dx dy))] : List D) = _
    rw [List.take_length, List.drop_length, List.map_nil, List.append_nil]
theorem mvI_n {dx dy : Int} {x : List D} (h : cI x 0 ≠ 3) : mvI dx dy x = [x.getD 0 default, x.getD 1 default, .i (mvQ dx dy (rQ x 2)).1, .i (mvQ dx dy (rQ x 2)).2.1, .i (mvQ dx dy (rQ x 2)).2.2.1, .i (mvQ dx dy (rQ x 2)).2.2.2, .l ((cL x 6).map (mvP dx dy)), x.getD 7 default] := if_neg h
theorem loopM18_0 : LoopMeets Try.prog F (R L18_0.key) L18_0 lb18_0 := by
  refine loop_meets (pre := R) mixed (sgAt_all (P := Try.prog) (pre := R) (Φ := F) (l := sg18) (List.forall_mem_cons.2 ⟨Meets.at (pre := R) (Φ := F) m11, List.forall_mem_cons.2 ⟨Meets.at (pre := R) (Φ := F) m36, List.forall_mem_cons.2 ⟨Meets.at (pre := R) (Φ := F) m35, List.forall_mem_cons.2 ⟨Meets.at (pre := R) (Φ := F) m32, (fun _ h => nomatch h)⟩⟩⟩⟩)) (loops_n 1 lk18_0 fun k hk => match k, hk with | 0, _ => by rw [li18_0_0]; exact loop_this lf18_1 loopM18_1) L18_0 (fun ρ => ((ρ.getD 3 default).int - (ρ.getD 4 default).int).toNat) le18_0 fun ρ _ hq => ?_
  obtain ⟨dx, dy, x5, x6, x7, x8, I, acc, j, rfl, hj, hI, ha⟩ : prM0 ρ := hq
  have hm := hI.1
  by_cases hlt : j < I.length
  · have hn : ∀ y, mvI dx dy (el I j) = y → RoundOk F (R L18_0.key) (fun ρ => ((ρ.getD 3 default).int - (ρ.getD 4 default).int).toNat) L18_0 [.i dx, .i dy, .l I, .i (I.length : Int), .i (j : Int), x5, x6, x7, x8, .l acc] [.i (-1), .i ((j + 1 : Nat) : Int), .l (acc ++ [y])] := fun y h => by
      subst h
      refine round_next ⟨⟨dx, dy, x5, x6, x7, x8, I, acc ++ [mvI dx dy (el I j)], j + 1, rfl, by omega, hI, by rw [List.length_append, ha]; rfl⟩, ?_, ?_⟩
      · show ((I.length : Int) - ((j + 1 : Nat) : Int)).toNat < ((I.length : Int) - (j : Int)).toNat
        omega
      · show ([.i 0, .i (I.length : Int), .l ((acc ++ [mvI dx dy (el I j)]) ++ collN (fun j => [mvI dx dy (el I j)]) I.length (j + 1))] : List D) = [.i 0, .i (I.length : Int), .l (acc ++ collN (fun j => [mvI dx dy (el I j)]) I.length j)]
        rw [coll_next (f := fun j => [mvI dx dy (el I j)]) hlt acc]
    obtain ⟨⟨k, o, a, b, c, d, ps, s, e, hps⟩, hl⟩ := hI.2 j hlt
    have e' : I.getD j [] = [.i k, .i o, .i a, .i b, .i c, .i d, .l ps, .s s] := e
    have hl : ps.length ≤ 512 := by rw [e] at hl; exact hl
    rw [e] at hn
    have c0 : decide ((0 : Int) ≤ (j : Int)) = true := decide_eq_true (by omega)
    have c1 : decide ((j : Int) < (I.length : Int)) = true := decide_eq_true (by omega)
    have c2 : IntKind.i64.wrap ((j : Int) + 1) = ((j + 1 : Nat) : Int) := nat_wrap (by omega)
    have c3 : decide ((((acc ++ [([D.i 0] : List D)]).length : Nat) : Int) ≤ 1599289640401) = true := decide_eq_true (by rw [List.length_append]; simp; omega)
    have c4 : ∀ z : List D, decide ((((acc ++ [z]).length : Nat) : Int) ≤ 1599289640401) = true := fun z => decide_eq_true (by rw [List.length_append]; simp; omega)
    have hcl : ∀ xs, cloneD [.l xs] = [.l xs] := fun _ => rfl
    have hlp : ∀ x4 x5 x6 x7 x8 x9 x10 : D, lpM1 [.i dx, .i dy, .i (ps.length : Int), .i 0, x4, x5, x6, x7, x8, x9, x10, .l ps] = [.i 0, .i (ps.length : Int), .l (ps.map (mvP dx dy))] := fun _ _ _ _ _ _ _ => rfl
    have hpr : ∀ x4 x5 x6 x7 x8 x9 x10 : D, prM1 [.i dx, .i dy, .i (ps.length : Int), .i 0, x4, x5, x6, x7, x8, x9, x10, .l ps] := fun x4 x5 x6 x7 x8 x9 x10 => ⟨dx, dy, x4, x5, x6, x7, x8, x9, x10, ps, 0, rfl, Nat.zero_le _, hl, hps⟩
    have hcp := clone_pre hl
    by_cases h3 : k = 3
    · subst h3
      simp only [rt18_0, VT.ok, Nd.holds, X.outs, X.ds, X.d, Op1.ev, Op2.ev, takeD_zero, takeD_cons, List.cons_append, List.nil_append, List.getD_cons_zero, List.getD_cons_succ, D.int_i, D.bool_b, D.lst_l, Int.toNat_natCast, if_true, Bool.false_eq_true, if_false, implies_true, true_and, F32, R32, F36, R36, F11800, R11800, e', c0, c1, c2, c4, hcl, hlp, beq_self_eq_true, Bool.not_true]
      exact ⟨fun _ => hcp, fun _ => hpr _ _ _ _ _ _ _, hn _ rfl⟩
    · have h3' : (k == 3) = false := beq_f h3
      have hmv : fn36 [.i a, .i b, .i c, .i d, .i dx, .i dy] = [.i (mvQ dx dy (a, b, c, d)).1, .i (mvQ dx dy (a, b, c, d)).2.1, .i (mvQ dx dy (a, b, c, d)).2.2.1, .i (mvQ dx dy (a, b, c, d)).2.2.2] := fn36_eq _ _ _ _ _ _
      simp only [rt18_0, VT.ok, Nd.holds, X.outs, X.ds, X.d, Op1.ev, Op2.ev, takeD_zero, takeD_cons, List.cons_append, List.nil_append, List.getD_cons_zero, List.getD_cons_succ, D.int_i, D.bool_b, D.lst_l, Int.toNat_natCast, if_true, implies_true, true_and, F32, R32, F36, R36, F11800, R11800, e', c0, c1, c2, c4, hcl, hlp, hmv, h3', Bool.not_false]
      exact ⟨fun _ => hcp, fun _ => hpr _ _ _ _ _ _ _, hn _ (mvI_n h3)⟩
  · have hj' : j = I.length := by omega
    subst hj'
    simp (disch := omega) only [rt18_0, VT.ok, X.ds, X.d, Op2.ev, List.getD_cons_zero, List.getD_cons_succ, D.int_i, D.bool_b, Bool.false_eq_true, ↓reduceIte, dlt_f]
    refine round_exit (by omega) ?_
    show ([.i 0, .i (I.length : Int), .l (acc ++ collN (fun j => [mvI dx dy (el I j)]) I.length I.length)] : List D) = _
    rw [coll_end]
theorem okIs_of {e : TypeId} {I : List (List D)} {b : Bx} (h : ∀ x ∈ I, FitsF [.int .i64, .int .i64, .int .i64, .int .i64, .int .i64, .int .i64, .sl e [.int .i64, .int .i64], .str] x) (hv : validS I b = 0) : okIs I := by
  obtain ⟨h1, h2, _⟩ := validS_iff.1 hv
  exact ⟨h1, fun j hj => ⟨okIt_of (h _ (getD_mem [] hj)), item_path (h2 j hj)⟩⟩
theorem fitsS2 {s e : TypeId} {ds : List D} (h : FitsF (.int .i64 :: .int .i64 :: .int .i64 :: .int .i64 :: .sl e [.int .i64, .int .i64, .int .i64, .int .i64, .int .i64, .int .i64, .sl s [.int .i64, .int .i64], .str] :: .int .i64 :: .int .i64 :: []) ds) :
    ∃ (a b c d : Int) (I : List (List D)) (x y : Int), ds = [.i a, .i b, .i c, .i d, .l I, .i x, .i y] ∧ I.length ≤ maxLen ∧ (∀ x ∈ I, FitsF [.int .i64, .int .i64, .int .i64, .int .i64, .int .i64, .int .i64, .sl s [.int .i64, .int .i64], .str] x) ∧ (-9223372036854775808 ≤ x ∧ x ≤ 9223372036854775807) ∧ -9223372036854775808 ≤ y ∧ y ≤ 9223372036854775807 := by
  obtain ⟨a, b, c, d, I, ds', rfl, h5, hm, hI⟩ := fitsS h
  obtain ⟨x, y, rfl, hx, hy⟩ := fits2 h5
  obtain ⟨x, rfl, hx1, hx2⟩ := wf_i64 hx
  obtain ⟨y, rfl, hy1, hy2⟩ := wf_i64 hy
  exact ⟨a, b, c, d, I, x, y, rfl, hm, hI, ⟨hx1, hx2⟩, hy1, hy2⟩
theorem m18 : Meets Try.prog 18 S18 (R 18) (F 18) := by
  refine meets_of_vt (pre := R) (Φ := F) mixed (sgAt_all (P := Try.prog) (pre := R) (Φ := F) (l := sg18) (List.forall_mem_cons.2 ⟨Meets.at (pre := R) (Φ := F) m11, List.forall_mem_cons.2 ⟨Meets.at (pre := R) (Φ := F) m36, List.forall_mem_cons.2 ⟨Meets.at (pre := R) (Φ := F) m35, List.forall_mem_cons.2 ⟨Meets.at (pre := R) (Φ := F) m32, (fun _ h => nomatch h)⟩⟩⟩⟩)) Try.func18 b18 n18 (loops_n 2 k18 fun k hk => match k, hk with | 0, _ => loop_this lf18_0 loopM18_0 | 1, _ => loop_this lf18_1 loopM18_1) e18 fun ds hf _ => ?_
  obtain ⟨a, b, c, d, I, x, y, rfl, hm, hI, _, _⟩ := fitsS2 hf.flat
  have hval : moveD [.i a, .i b, .i c, .i d, .l I, .i x, .i y] = outS (moveS (a, b, c, d) I x y) := rfl
  have hv : valD [.i a, .i b, .i c, .i d, .l I] = [.i (validS I (a, b, c, d))] := rfl
  have hmv : fn36 [.i a, .i b, .i c, .i d, .i x, .i y] = [.i (mvQ x y (a, b, c, d)).1, .i (mvQ x y (a, b, c, d)).2.1, .i (mvQ x y (a, b, c, d)).2.2.1, .i (mvQ x y (a, b, c, d)).2.2.2] := fn36_eq _ _ _ _ _ _
  have hfar : (((decide (x < -536870912) || decide (536870912 < x)) || decide (y < -536870912)) || decide (536870912 < y)) = farB x y := rfl
  have hbx : bxB (mvQ x y (a, b, c, d)).1 (mvQ x y (a, b, c, d)).2.1 (mvQ x y (a, b, c, d)).2.2.1 (mvQ x y (a, b, c, d)).2.2.2 = bxQ (mvQ x y (a, b, c, d)) := rfl
  rw [show F 18 = moveD from rfl, hval]
  simp only [vt18, VT.ok, Nd.holds, X.outs, X.ds, X.d, Op1.ev, Op2.ev, takeD_zero, takeD_cons, List.cons_append, List.nil_append, List.getD_cons_zero, List.getD_cons_succ, D.int_i, D.bool_b, D.lst_l, ite_b, ite_or, implies_true, true_and, F35, R35, F11, R11, F36, R36, F11801, R11801, hv, moveS]
  by_cases h1 : validS I (a, b, c, d) = 0
  · rw [beq_t h1, if_pos h1]
    by_cases h2 : (I.length : Int) = 0
    · simp only [if_true, Bool.false_eq_true, if_false, Bool.not_true, beq_t h2, if_pos h2]
      rfl
    · simp only [takeD_zero, takeD_cons, List.cons_append, List.nil_append, List.getD_cons_zero, List.getD_cons_succ, D.int_i, D.bool_b, Bool.false_eq_true, if_false, Bool.not_true, beq_f h2, if_neg h2, hmv, hfar, fn35_eq, hbx]
      cases h3 : (farB x y || !bxQ (mvQ x y (a, b, c, d)))
      · have hok := okIs_of hI h1
        have hpre : ∀ p q r s : D, prM0 [.i x, .i y, .l I, .i (I.length : Int), .i 0, p, q, r, s, .l []] := fun p q r s => ⟨x, y, p, q, r, s, I, [], 0, rfl, Nat.zero_le _, hok, rfl⟩
        have hlp : ∀ p q r s : D, lpM0 [.i x, .i y, .l I, .i (I.length : Int), .i 0, p, q, r, s, .l []] = [.i 0, .i (I.length : Int), .l (I.map (mvI x y))] := fun _ _ _ _ => by
          rw [← coll_map (mvI x y) I]; rfl
        simp only [takeD_zero, takeD_cons, List.getD_cons_zero, List.getD_cons_succ, Bool.false_eq_true, if_false, hlp]
        exact ⟨fun _ => hpre _ _ _ _, rfl⟩
      · simp only [if_true]
        rfl
  · simp only [beq_f h1, if_neg h1, if_true, Bool.not_false]
    rfl
end Go.Proofs.Ythpppbfiiphgoaa.rv
namespace Go.RV
theorem up_len (C : List (List D)) : ∀ (f : Nat) (c : Int), (up C f c).length ≤ f
  | 0, _ => Nat.le_refl _
  | f + 1, c => by
    rw [up]
    split
    · rw [List.length_cons]
      have := up_len C f (cI (el C c.toNat) 1)
      omega
    · simp
theorem depE_bd {g : Gd} {c : Int} (_h0 : -1 ≤ c) (h1 : c < 64) : 0 ≤ depE g c ∧ depE g c ≤ 65 := by
  unfold depE
  split
  · have := up_len g.C (c.toNat + 1) c
    unfold depth around
    omega
  · omega
theorem swp_all {p : Int → Prop} (h0 : p 0) {l : List Int} (h : ∀ c ∈ l, p c) (j : Nat) : ∀ c ∈ swp l j, p c := by
  have hg : ∀ i, p (l.getD i 0) := fun i => by
    by_cases hi : i < l.length
    · exact h _ (getD_mem 0 hi)
    · have e : l.getD i 0 = 0 := by simp [List.getD, List.getElem?_eq_none (by omega : l.length ≤ i)]
      rw [e]; exact h0
  intro c hc
  unfold swp at hc
  rcases List.mem_or_eq_of_mem_set hc with h1 | h1
  · rcases List.mem_or_eq_of_mem_set h1 with h2 | h2
    · exact h c h2
    · rw [h2]; exact hg _
  · rw [h1]; exact hg _
theorem bub_all {p : Int → Prop} (h0 : p 0) {k : Int → Int} : ∀ (j : Nat) (l : List Int), (∀ c ∈ l, p c) → ∀ c ∈ (bub k j l).2, p c
  | 0, l, h => h
  | j + 1, l, h => by
    rw [bub]
    split
    · exact bub_all h0 j _ (swp_all h0 h j)
    · exact h
theorem gOfC_clo (f : FuncId) (cts : List CT) (g : Gd) : gOfC (cloG f cts g) = g := rfl
theorem isrt_end {k : Int → Int} {n i : Nat} (h : n ≤ i) (l : List Int) : isrt k n i l = l := by
  unfold isrt foldN
  rw [List.drop_eq_nil_of_le (by simpa using h)]
  rfl
theorem isrt_next {k : Int → Int} {n i : Nat} (h : i < n) (l : List Int) : isrt k n i l = isrt k n (i + 1) (bub k i l).2 := by
  unfold isrt
  rw [fold_next h]
theorem idI_len (n : Nat) : (idI n).length = n := by simp [idI]
theorem dep_ok {g : Gd} (hv : validE g = 0) : ∀ x ∈ idI g.C.length, 1 ≤ kD g x ∧ kD g x ≤ 6 := by
  intro x hx
  unfold idI at hx
  rw [List.mem_map] at hx
  obtain ⟨i, hi, rfl⟩ := hx
  rw [List.mem_range] at hi
  have hc := (Go.Proofs.Ythpppbfiiphgoaa.rv.valid_parts hv).2.2.2.1 i hi
  unfold kD depE
  rw [if_pos ⟨hv, by omega, by omega⟩]
  refine ⟨depth_pos _ (by omega), ?_⟩
  unfold cluE at hc
  split at hc
  · split at hc
    · omega
    · split at hc
      · omega
      · split at hc
        · omega
        · omega
  · omega
theorem fil_coll (p : Int → Bool) (n : Nat) : collN (fun i => if p (i : Int) = true then [(i : Int)] else []) n 0 = (idI n).filter p := by
  unfold collN idI
  rw [List.drop_zero]
  generalize List.range n = l
  induction l with
  | nil => rfl
  | cons a l ih =>
    rw [List.flatMap_cons, ih, List.map_cons, List.filter_cons]
    split <;> simp
theorem ord_byKey (g : Gd) : ordD g = byKey (kD g) (idI g.C.length) 6 := by
  unfold ordD
  have e : ∀ d : Nat, collN (fun i => if (depE g (i : Int) == (d : Int)) = true then [(i : Int)] else []) g.C.length 0 = (idI g.C.length).filter fun x => kD g x == (d : Int) := fun d => fil_coll (fun x => depE g x == (d : Int)) _
  have e2 : (List.range 7).drop 1 = [1, 2, 3, 4, 5, 6] := rfl
  unfold collN at e ⊢
  rw [e2]
  simp only [List.flatMap_cons, List.flatMap_nil, e, byKey, List.nil_append, List.append_nil, List.append_assoc]
theorem srt_ord {g : Gd} (hv : validE g = 0) : isrt (kD g) g.C.length 1 (idI g.C.length) = ordD g := by
  rw [ord_byKey, ← isrt_all (dep_ok hv), idI_len]
end Go.RV
namespace Go.Proofs.Ythpppbfiiphgoaa.rv
set_option maxRecDepth 10000
open Go.RV
theorem m52 : Meets Try.prog 52 S52 (R 52) (F 52) := by
  refine meets_of_vt (pre := R) (Φ := F) mixed (sgAt_all (P := Try.prog) (pre := R) (Φ := F) (l := sg52) (List.forall_mem_cons.2 ⟨Meets.at (pre := R) (Φ := F) m53, (fun _ h => nomatch h)⟩)) Try.func52 b52 n52 (loops_n 0 k52 fun k hk => by omega) e52 fun ds hf hq => ?_
  obtain ⟨g, a, b, rfl, hv, ha, hb⟩ : prClp ds := hq
  have k1 := depE_bd (g := g) ha.1 ha.2
  have k2 := depE_bd (g := g) hb.1 hb.2
  have e1 : ∀ c : Int, depED [.s g.nm, .b g.dr, .l g.N, .l g.E, .l g.C, .i c] = [.i (depE g c)] := fun _ => rfl
  have e2 : IntKind.i64.wrap (depE g a - depE g b) = depE g a - depE g b := w64 (by omega)
  simp only [vt52, VT.ok, Nd.holds, X.outs, X.ds, X.d, Op2.ev, takeD_zero, takeD_cons, List.cons_append, List.nil_append, List.getD_cons_zero, List.getD_cons_succ, D.int_i, D.bool_b, implies_true, true_and, F53, R53, F52, D.ptd_p, Gd.ds, e1, e2]
  rfl
theorem m24004 : Meets Try.prog 24004 S24004 (R 24004) (F 24004) := by
  refine meets_dyn (by decide) rfl fun d ds hf hp => ?_
  obtain ⟨g, a, b, e, hv, ha, hb⟩ : dpDep 52 ctsG (d :: ds) := hp
  cases e
  exact ⟨52, [.pt ctsG], [.p g.ds], S52, _, F 52, rfl, by decide, m52, rfl, rfl, ⟨g, a, b, rfl, hv, ha, hb⟩, rfl⟩
theorem loopM85_1 : LoopMeets Try.prog F (R L85_1.key) L85_1 lb85_1 := by
  refine loop_meets (pre := R) mixed (sgAt_all (P := Try.prog) (pre := R) (Φ := F) (l := sg85) (List.forall_mem_cons.2 ⟨Meets.at (pre := R) (Φ := F) m24004, (fun _ h => nomatch h)⟩)) (loops_n 0 lk85_1 fun k hk => by omega) L85_1 (fun ρ => (ρ.getD 2 default).int.toNat) le85_1 fun ρ _ hq => ?_
  obtain ⟨g, l, j, rfl, hj, hv, hl, hb⟩ : prSr1 52 ctsG ρ := hq
  have hlp : ∀ (l : List Int) (j : Nat), lpSr1 [.i 0, cloG 52 ctsG g, .i (j : Int), .l (l.map encI)] = [.i 0, .i ((bub (kD g) j l).1 : Int), .l ((bub (kD g) j l).2.map encI)] := fun l j => by
    have e : lpSr1 [.i 0, cloG 52 ctsG g, .i (j : Int), .l (l.map encI)] = [.i 0, .i ((bub (kD g) j (lsI (l.map encI))).1 : Int), .l ((bub (kD g) j (lsI (l.map encI))).2.map encI)] := rfl
    rw [e, lsI_enc]
  cases j with
  | zero =>
    have c0 : decide ((0 : Int) < ((0 : Nat) : Int)) = false := rfl
    simp only [rt85_1, VT.ok, Nd.holds, X.outs, X.ds, X.d, Op1.ev, Op2.ev, List.cons_append, List.nil_append, List.getD_cons_zero, List.getD_cons_succ, D.int_i, D.bool_b, D.lst_l, Int.toNat_natCast, List.length_map, Bool.false_eq_true, if_false, true_and, false_implies, takeD1_0, c0]
    refine round_exit (by omega) ?_
    show lpSr1 _ = _
    rw [hlp]
    rfl
  | succ j =>
    have eX : (l.map encI).getD (j + 1) [] = [.i (l.getD (j + 1) 0)] := rowI hj
    have eY : (l.map encI).getD j [] = [.i (l.getD j 0)] := rowI (by omega)
    have eZ : ((l.set (j + 1) (l.getD j 0)).map encI).getD j [] = [.i ((l.set (j + 1) (l.getD j 0)).getD j 0)] := rowI (by rw [List.length_set]; omega)
    have hx := hb _ (getD_mem 0 hj)
    have hy := hb _ (getD_mem 0 (by omega : j < l.length))
    have c0 : decide ((0 : Int) < ((j + 1 : Nat) : Int)) = true := decide_eq_true (by omega)
    have c1 : decide ((0 : Int) ≤ ((j + 1 : Nat) : Int)) = true := decide_eq_true (by omega)
    have c2 : decide (((j + 1 : Nat) : Int) < (l.length : Int)) = true := decide_eq_true (by omega)
    have c3 : IntKind.i64.wrap (((j + 1 : Nat) : Int) - 1) = (j : Int) := by rw [w64 (by omega)]; omega
    have c4 : decide ((0 : Int) ≤ (j : Int)) = true := decide_eq_true (by omega)
    have c5 : decide ((j : Int) < (l.length : Int)) = true := decide_eq_true (by omega)
    have hdy : dyDep [cloG 52 ctsG g, .i (l.getD (j + 1) 0), .i (l.getD j 0)] = [.i (kD g (l.getD (j + 1) 0) - kD g (l.getD j 0))] := rfl
    have hdp : dpDep 52 ctsG [cloG 52 ctsG g, .i (l.getD (j + 1) 0), .i (l.getD j 0)] := ⟨g, _, _, rfl, hv, hx, hy⟩
    simp only [rt85_1, VT.ok, Nd.holds, X.outs, X.ds, X.d, Op1.ev, Op2.ev, takeD_zero, takeD_cons, List.cons_append, List.nil_append, List.getD_cons_zero, List.getD_cons_succ, D.int_i, D.bool_b, D.lst_l, Int.toNat_natCast, List.length_map, if_true, implies_true, true_and, F24004, R24004, c0, c1, c2, c3, c4, c5, eX, eY, hdy, splI, setI, eZ, List.length_set]
    refine ⟨fun _ => hdp, ?_⟩
    by_cases hk : kD g (l.getD (j + 1) 0) < kD g (l.getD j 0)
    · rw [decide_eq_true (by omega : kD g (l.getD (j + 1) 0) - kD g (l.getD j 0) < 0), if_pos rfl]
      refine round_next ⟨⟨g, swp l j, j, rfl, by rw [swp_len]; omega, hv, by rw [swp_len]; exact hl, swp_all (p := fun c => -1 ≤ c ∧ c < 64) (by omega) hb j⟩, ?_, ?_⟩
      · show ((j : Nat) : Int).toNat < ((j + 1 : Nat) : Int).toNat
        omega
      · show lpSr1 [.i 0, cloG 52 ctsG g, .i (j : Int), .l ((swp l j).map encI)] = lpSr1 [.i 0, cloG 52 ctsG g, .i ((j + 1 : Nat) : Int), .l (l.map encI)]
        rw [hlp, hlp, bub, if_pos hk]
    · rw [decide_eq_false (by omega : ¬ kD g (l.getD (j + 1) 0) - kD g (l.getD j 0) < 0), if_neg (by decide)]
      refine round_exit (by omega) ?_
      show lpSr1 _ = _
      rw [hlp, bub, if_neg hk]
theorem loopM85_0 : LoopMeets Try.prog F (R L85_0.key) L85_0 lb85_0 := by
  refine loop_meets (pre := R) mixed (sgAt_all (P := Try.prog) (pre := R) (Φ := F) (l := sg85) (List.forall_mem_cons.2 ⟨Meets.at (pre := R) (Φ := F) m24004, (fun _ h => nomatch h)⟩)) (loops_n 1 lk85_0 fun k hk => match k, hk with | 0, _ => by rw [li85_0_0]; exact loop_this lf85_1 loopM85_1) L85_0 (fun ρ => ((ρ.getD 1 default).int - (ρ.getD 3 default).int).toNat) le85_0 fun ρ _ hq => ?_
  obtain ⟨g, l, j, rfl, hj, hv, hl, hb⟩ : prSr0 52 ctsG ρ := hq
  have hlp : ∀ (l : List Int) (n j : Nat), lpSr0 [.i 0, .i (n : Int), cloG 52 ctsG g, .i (j : Int), .l (l.map encI)] = [.i 0, .i (max (n : Int) (j : Int)), .l ((isrt (kD g) n j l).map encI)] := fun l n j => by
    have e : lpSr0 [.i 0, .i (n : Int), cloG 52 ctsG g, .i (j : Int), .l (l.map encI)] = [.i 0, .i (max (n : Int) (j : Int)), .l ((isrt (kD g) n j (lsI (l.map encI))).map encI)] := rfl
    rw [e, lsI_enc]
  by_cases hlt : j < l.length
  · have h1 : lpSr1 [.i 0, cloG 52 ctsG g, .i (j : Int), .l (l.map encI)] = [.i 0, .i ((bub (kD g) j l).1 : Int), .l ((bub (kD g) j l).2.map encI)] := by
      have e : lpSr1 [.i 0, cloG 52 ctsG g, .i (j : Int), .l (l.map encI)] = [.i 0, .i ((bub (kD g) j (lsI (l.map encI))).1 : Int), .l ((bub (kD g) j (lsI (l.map encI))).2.map encI)] := rfl
      rw [e, lsI_enc]
    have hp : prSr1 52 ctsG [.i 0, cloG 52 ctsG g, .i (j : Int), .l (l.map encI)] := ⟨g, l, j, rfl, hlt, hv, hl, hb⟩
    have c0 : decide ((j : Int) < (l.length : Int)) = true := decide_eq_true (by omega)
    have c1 : IntKind.i64.wrap ((j : Int) + 1) = ((j + 1 : Nat) : Int) := nat_wrap (by omega)
    simp only [rt85_0, VT.ok, Nd.holds, X.outs, X.ds, X.d, Op2.ev, takeD_zero, takeD_cons, List.cons_append, List.nil_append, List.getD_cons_zero, List.getD_cons_succ, D.int_i, D.bool_b, if_true, F18500, R18500, c0, c1, h1]
    refine ⟨fun _ => hp, ?_⟩
    refine round_next ⟨⟨g, (bub (kD g) j l).2, j + 1, by rw [bub_len]; rfl, by omega, hv, by rw [bub_len]; exact hl, bub_all (p := fun c => -1 ≤ c ∧ c < 64) (by omega) j l hb⟩, ?_, ?_⟩
    · show ((l.length : Int) - ((j + 1 : Nat) : Int)).toNat < ((l.length : Int) - (j : Int)).toNat
      omega
    · show lpSr0 [.i 0, .i (l.length : Int), cloG 52 ctsG g, .i ((j + 1 : Nat) : Int), .l ((bub (kD g) j l).2.map encI)] = lpSr0 [.i 0, .i (l.length : Int), cloG 52 ctsG g, .i (j : Int), .l (l.map encI)]
      rw [hlp, hlp, isrt_next hlt, Int.max_eq_left (by omega), Int.max_eq_left (by omega)]
  · have c0 : decide ((j : Int) < (l.length : Int)) = false := decide_eq_false (by omega)
    simp only [rt85_0, VT.ok, Nd.holds, X.outs, X.ds, X.d, Op2.ev, List.cons_append, List.nil_append, List.getD_cons_zero, List.getD_cons_succ, D.int_i, D.bool_b, Bool.false_eq_true, if_false, c0]
    refine round_exit (by omega) ?_
    show lpSr0 [.i 0, .i (l.length : Int), cloG 52 ctsG g, .i (j : Int), .l (l.map encI)] = _
    rw [hlp, isrt_end (by omega), Int.max_eq_right (by omega)]
theorem srt_of (g : Gd) (f : FuncId) (cts : List CT) (l : List Int) : srt1 (cloG f cts g) (l.map encI) = .l ((isrt (kD g) l.length 1 l).map encI) := by
  unfold srt1
  rw [gOfC_clo, lsI_enc, List.length_map]
theorem m85 : MeetsRow Try.prog 85 S85 (qRow S85) (R 85) (F 85) := by
  refine meets_row (pre := R) (Φ := F) mixed (sgAt_all (P := Try.prog) (pre := R) (Φ := F) (l := sg85) (List.forall_mem_cons.2 ⟨Meets.at (pre := R) (Φ := F) m24004, (fun _ h => nomatch h)⟩)) Try.func85 b85 n85 (loops_n 2 k85 fun k hk => match k, hk with | 0, _ => loop_this lf85_0 loopM85_0 | 1, _ => loop_this lf85_1 loopM85_1) e85 rfl rfl rfl fun ds hf hq => ?_
  obtain ⟨g, l, rfl, hs⟩ : prIns 52 ctsG ds := hq
  have hval : insD [.l (l.map encI), .i 0, .i (l.length : Int), cloG 52 ctsG g] = [.l ((isrt (kD g) l.length 1 l).map encI)] := by
    show [srt1 (cloG 52 ctsG g) (l.map encI)] = _
    rw [srt_of]
  rw [show F 85 = insD from rfl, hval]
  have c1 : IntKind.i64.wrap ((0 : Int) + 1) = ((1 : Nat) : Int) := w64 (by omega)
  have hlp : lpSr0 [.i 0, .i (l.length : Int), cloG 52 ctsG g, .i ((1 : Nat) : Int), .l (l.map encI)] = [.i 0, .i (max (l.length : Int) ((1 : Nat) : Int)), .l ((isrt (kD g) l.length 1 l).map encI)] := by
    have e : lpSr0 [.i 0, .i (l.length : Int), cloG 52 ctsG g, .i ((1 : Nat) : Int), .l (l.map encI)] = [.i 0, .i (max (l.length : Int) ((1 : Nat) : Int)), .l ((isrt (kD g) l.length 1 (lsI (l.map encI))).map encI)] := rfl
    rw [e, lsI_enc]
  have hp : prSr0 52 ctsG [.i 0, .i (l.length : Int), cloG 52 ctsG g, .i ((1 : Nat) : Int), .l (l.map encI)] := ⟨g, l, 1, rfl, Nat.le_refl _, hs⟩
  simp only [vt85, VT.ok, Nd.holds, X.outs, X.ds, X.d, Op2.ev, takeD_zero, takeD_cons, List.cons_append, List.nil_append, List.getD_cons_zero, List.getD_cons_succ, D.int_i, D.bool_b, and_true, F18501, R18501, c1, hlp]
  exact fun _ => hp
theorem m86 : MeetsRow Try.prog 86 S86 (qRow S86) (R 86) (F 86) := meetsRow_none Try.func86 b86 n86
theorem loopM73_0 : LoopMeets Try.prog F (R L73_0.key) L73_0 lb73_0 := by
  refine loop_meets (pre := R) mixed (sgAt_all (P := Try.prog) (pre := R) (Φ := F) (l := sg73) (List.forall_mem_cons.2 ⟨MeetsRow.at (pre := R) (Φ := F) m85, List.forall_mem_cons.2 ⟨MeetsRow.at (pre := R) (Φ := F) m86, (fun _ h => nomatch h)⟩⟩)) (loops_n 0 lk73_0 fun k hk => by omega) L73_0 (fun ρ => 0) le73_0 fun ρ _ hq => ?_
  obtain ⟨n, c, x2, x3, xs, rfl, hn⟩ : prZ0 ρ := hq
  have c0 : decide ((20 : Int) ≤ (n : Int)) = false := decide_eq_false (by omega)
  simp only [rt73_0, VT.ok, Nd.holds, X.outs, X.ds, X.d, Op2.ev, List.cons_append, List.nil_append, List.getD_cons_zero, List.getD_cons_succ, D.int_i, D.bool_b, Bool.false_eq_true, if_false, takeD1_0, c0]
  exact round_exit (by omega) rfl
theorem loopM73_2 : LoopMeets Try.prog F (R L73_2.key) L73_2 lb73_2 := by
  refine loop_meets (pre := R) mixed (sgAt_all (P := Try.prog) (pre := R) (Φ := F) (l := sg73) (List.forall_mem_cons.2 ⟨MeetsRow.at (pre := R) (Φ := F) m85, List.forall_mem_cons.2 ⟨MeetsRow.at (pre := R) (Φ := F) m86, (fun _ h => nomatch h)⟩⟩)) (loops_n 0 lk73_2 fun k hk => by omega) L73_2 (fun ρ => 0) le73_2 fun ρ _ hq => ?_
  exact (show False from hq).elim
theorem loopM73_1 : LoopMeets Try.prog F (R L73_1.key) L73_1 lb73_1 := by
  refine loop_meets (pre := R) mixed (sgAt_all (P := Try.prog) (pre := R) (Φ := F) (l := sg73) (List.forall_mem_cons.2 ⟨MeetsRow.at (pre := R) (Φ := F) m85, List.forall_mem_cons.2 ⟨MeetsRow.at (pre := R) (Φ := F) m86, (fun _ h => nomatch h)⟩⟩)) (loops_n 1 lk73_1 fun k hk => match k, hk with | 0, _ => by rw [li73_1_0]; exact loop_this lf73_2 loopM73_2) L73_1 (fun ρ => 0) le73_1 fun ρ _ hq => ?_
  obtain ⟨n, c, xs, rfl, hn⟩ : prZ1 ρ := hq
  have c0 : decide ((20 : Int) < (n : Int)) = false := decide_eq_false (by omega)
  simp only [rt73_1, VT.ok, Nd.holds, X.outs, X.ds, X.d, Op2.ev, List.cons_append, List.nil_append, List.getD_cons_zero, List.getD_cons_succ, D.int_i, D.bool_b, Bool.false_eq_true, if_false, c0]
  exact round_exit (by omega) rfl
theorem m73 : MeetsRow Try.prog 73 S73 (qRow S73) (R 73) (F 73) := by
  refine meets_row (pre := R) (Φ := F) mixed (sgAt_all (P := Try.prog) (pre := R) (Φ := F) (l := sg73) (List.forall_mem_cons.2 ⟨MeetsRow.at (pre := R) (Φ := F) m85, List.forall_mem_cons.2 ⟨MeetsRow.at (pre := R) (Φ := F) m86, (fun _ h => nomatch h)⟩⟩)) Try.func73 b73 n73 (loops_n 3 k73 fun k hk => match k, hk with | 0, _ => loop_this lf73_0 loopM73_0 | 1, _ => loop_this lf73_1 loopM73_1 | 2, _ => loop_this lf73_2 loopM73_2) e73 rfl rfl rfl fun ds hf hq => ?_
  obtain ⟨g, l, rfl, hs⟩ : prStb 52 ctsG ds := hq
  have hn : l.length < 20 := by have := hs.2.1; omega
  have hz0 : ∀ x2 x3 x4 x5 x6 : D, lpZ0 [x2, x3, x4, x5, x6, .l (l.map encI)] = [.i 0, x5, x6, .l (l.map encI)] := fun _ _ _ _ _ => rfl
  have hz1 : ∀ (x2 x3 x4 : D) (xs : List (List D)), lpZ1 [x2, x3, x4, .l xs] = [.i 0, x4, .l xs] := fun _ _ _ _ => rfl
  have hval : stbD [.l (l.map encI), .i (l.length : Int), cloG 52 ctsG g] = [.l ((isrt (kD g) l.length 1 l).map encI)] := by
    show [srt1 (cloG 52 ctsG g) (l.map encI)] = _
    rw [srt_of]
  have hins : insD [.l (l.map encI), .i 0, .i (l.length : Int), cloG 52 ctsG g] = [.l ((isrt (kD g) l.length 1 l).map encI)] := by
    show [srt1 (cloG 52 ctsG g) (l.map encI)] = _
    rw [srt_of]
  have hp0 : prZ0 [.i (l.length : Int), cloG 52 ctsG g, .i 20, .i 0, .i 20, .l (l.map encI)] := ⟨l.length, _, _, _, _, rfl, hn⟩
  have hp1 : prZ1 [.i (l.length : Int), cloG 52 ctsG g, .i 20, .l ((isrt (kD g) l.length 1 l).map encI)] := ⟨l.length, _, _, rfl, hn⟩
  have hpi : prIns 52 ctsG [.l (l.map encI), .i 0, .i (l.length : Int), cloG 52 ctsG g] := ⟨g, l, rfl, hs⟩
  rw [show F 73 = stbD from rfl, hval]
  simp only [vt73, VT.ok, Nd.holds, X.outs, X.ds, X.d, takeD_zero, takeD_cons, List.cons_append, List.nil_append, List.getD_cons_zero, List.getD_cons_succ, D.bool_b, and_true, F85, R85, F17300, R17300, F17302, R17302, hz0, hins, hz1]
  exact ⟨fun _ => hp0, fun _ => hpi, fun _ => hp1⟩
theorem m51 : MeetsRow Try.prog 51 S51 (qRow S51) (R 51) (F 51) := by
  refine meets_row (pre := R) (Φ := F) mixed (sgAt_all (P := Try.prog) (pre := R) (Φ := F) (l := sg51) (List.forall_mem_cons.2 ⟨MeetsRow.at (pre := R) (Φ := F) m73, (fun _ h => nomatch h)⟩)) Try.func51 b51 n51 (loops_n 0 k51 fun k hk => by omega) e51 rfl rfl rfl fun ds hf hq => ?_
  obtain ⟨g, l, rfl, hs⟩ : prSt 52 ctsG ds := hq
  have hpi : prStb 52 ctsG [.l (l.map encI), .i (l.length : Int), cloG 52 ctsG g] := ⟨g, l, rfl, hs⟩
  simp only [vt51, VT.ok, Nd.holds, X.outs, X.ds, X.d, Op1.ev, List.cons_append, List.nil_append, List.getD_cons_zero, List.getD_cons_succ, D.bool_b, D.lst_l, List.length_map, takeD1_0, F73, R73, F51]
  exact ⟨fun _ => hpi, rfl⟩
theorem idI_snoc (j : Nat) : (idI j).map encI ++ [[.i (j : Int)]] = (idI (j + 1)).map encI := by
  simp [idI, List.range_succ, encI]
theorem loopM31_0 : LoopMeets Try.prog F (R L31_0.key) L31_0 lb31_0 := by
  refine loop_meets (pre := R) mixed (sgAt_all (P := Try.prog) (pre := R) (Φ := F) (l := sg31) (List.forall_mem_cons.2 ⟨MeetsRow.at (pre := R) (Φ := F) m51, (fun _ h => nomatch h)⟩)) (loops_n 0 lk31_0 fun k hk => by omega) L31_0 (fun ρ => ((ρ.getD 0 default).int - (ρ.getD 1 default).int).toNat) le31_0 fun ρ _ hq => ?_
  obtain ⟨n, j, rfl, hj, hn⟩ : prId ρ := hq
  by_cases hlt : j < n
  · have c0 : decide ((j : Int) < (n : Int)) = true := decide_eq_true (by omega)
    have c1 : IntKind.i64.wrap ((j : Int) + 1) = ((j + 1 : Nat) : Int) := nat_wrap (by omega)
    have c2 : decide ((((idI (j + 1)).length : Nat) : Int) ≤ 17592186044416) = true := decide_eq_true (by rw [idI_len]; omega)
    simp only [rt31_0, VT.ok, Nd.holds, X.ds, X.d, Op1.ev, Op2.ev, List.getD_cons_zero, List.getD_cons_succ, D.int_i, D.bool_b, D.lst_l, List.length_map, if_true, implies_true, true_and, c0, c1, idI_snoc, c2]
    refine round_next ⟨⟨n, j + 1, rfl, by omega, hn⟩, ?_, rfl⟩
    show ((n : Int) - ((j + 1 : Nat) : Int)).toNat < ((n : Int) - (j : Int)).toNat
    omega
  · have hj' : j = n := by omega
    subst hj'
    have c0 : decide ((j : Int) < (j : Int)) = false := decide_eq_false (by omega)
    simp only [rt31_0, VT.ok, Nd.holds, X.ds, X.d, Op1.ev, Op2.ev, List.getD_cons_zero, List.getD_cons_succ, D.int_i, D.bool_b, D.lst_l, Bool.false_eq_true, if_false, c0]
    exact round_exit (by omega) rfl
theorem m31 : Meets Try.prog 31 S31 (R 31) (F 31) := by
  refine meets_of_vt (pre := R) (Φ := F) mixed (sgAt_all (P := Try.prog) (pre := R) (Φ := F) (l := sg31) (List.forall_mem_cons.2 ⟨MeetsRow.at (pre := R) (Φ := F) m51, (fun _ h => nomatch h)⟩)) Try.func31 b31 n31 (loops_n 1 k31 fun k hk => match k, hk with | 0, _ => loop_this lf31_0 loopM31_0) e31 fun ds hf hq => ?_
  obtain ⟨g, ds', rfl, h5, _⟩ := fitsG hf.flat
  have e0 := fits0 h5
  subst e0
  have hv : validE g = 0 := hq
  have hC := (valid_parts hv).1.2.2
  have hval : grpsD [.s g.nm, .b g.dr, .l g.N, .l g.E, .l g.C] = [.l ((ordD g).map encI)] := rfl
  have hp : prId [.i (g.C.length : Int), .i 0, .l []] := ⟨g.C.length, 0, rfl, by omega, hC⟩
  have hlp : lpId [.i (g.C.length : Int), .i 0, .l []] = [.i 0, .i (g.C.length : Int), .l ((idI g.C.length).map encI)] := rfl
  have hclo : D.c 52 [.pt ctsG] [.p [.s g.nm, .b g.dr, .l g.N, .l g.E, .l g.C]] = cloG 52 ctsG g := rfl
  have hps : prSt 52 ctsG [.l ((idI g.C.length).map encI), cloG 52 ctsG g] := ⟨g, idI g.C.length, rfl, hv, by rw [idI_len]; exact hC, fun c hc => by
    unfold idI at hc
    rw [List.mem_map] at hc
    obtain ⟨i, hi, rfl⟩ := hc
    rw [List.mem_range] at hi
    omega⟩
  have hsr : srtD [.l ((idI g.C.length).map encI), cloG 52 ctsG g] = [.l ((ordD g).map encI)] := by
    show [srt1 (cloG 52 ctsG g) ((idI g.C.length).map encI)] = _
    rw [srt_of, idI_len, srt_ord hv]
  rw [show F 31 = grpsD from rfl, show (D.s g.nm :: .b g.dr :: .l g.N :: .l g.E :: .l g.C :: []) = [.s g.nm, .b g.dr, .l g.N, .l g.E, .l g.C] from rfl, hval]
  simp only [vt31, VT.ok, Nd.holds, X.outs, X.ds, X.d, Op1.ev, takeD_zero, takeD_cons, List.cons_append, List.nil_append, List.getD_cons_zero, List.getD_cons_succ, D.bool_b, D.lst_l, takeD1_0, F51, R51, F13100, R13100, hlp]
  refine ⟨fun _ => hp, ?_⟩
  show (True → prSt 52 ctsG [.l ((idI g.C.length).map encI), cloG 52 ctsG g]) ∧ srtD [.l ((idI g.C.length).map encI), cloG 52 ctsG g] = _
  exact ⟨fun _ => hps, hsr⟩
end Go.Proofs.Ythpppbfiiphgoaa.rv
namespace Go.RV
theorem lItem_len (N : List (List D)) (k : Nat) (b : List (List D)) (i : Nat) : (lItem N k b i).length ≤ 1 := by unfold lItem; split <;> simp
theorem mItem_len (E b : List (List D)) (i : Nat) : (mItem E b i).length ≤ 1 := by unfold mItem; split <;> simp
end Go.RV
namespace Go.Proofs.Ythpppbfiiphgoaa.rv
set_option maxRecDepth 10000
open Go.RV
theorem loopM15_0 : LoopMeets Try.prog F (R L15_0.key) L15_0 lb15_0 := by
  refine loop_meets (pre := R) mixed (sgAt_all (P := Try.prog) (pre := R) (Φ := F) (l := sg15) (List.forall_mem_cons.2 ⟨Meets.at (pre := R) (Φ := F) m30, List.forall_mem_cons.2 ⟨Meets.at (pre := R) (Φ := F) m31, List.forall_mem_cons.2 ⟨Meets.at (pre := R) (Φ := F) m32, List.forall_mem_cons.2 ⟨Meets.at (pre := R) (Φ := F) m13, List.forall_mem_cons.2 ⟨Meets.at (pre := R) (Φ := F) m11, (fun _ h => nomatch h)⟩⟩⟩⟩⟩)) (loops_n 0 lk15_0 fun k hk => by omega) L15_0 (fun ρ => ((ρ.getD 1 default).int - (ρ.getD 2 default).int).toNat) le15_0 fun ρ _ hq => ?_
  obtain ⟨x3, x5, x6, x7, x8, x9, x10, x11, x12, x13, x14, x15, x16, x17, o, c, acc, j, rfl, hj, hm, ha, ho⟩ : prB0 ρ := hq
  by_cases hlt : j < o.length
  · have hn : ∀ acc' : List (List D), acc ++ [gItem c (cI (el o j) 0)] = acc' → RoundOk F (R L15_0.key) (fun ρ => ((ρ.getD 1 default).int - (ρ.getD 2 default).int).toNat) L15_0 [.l o, .i (o.length : Int), .i (j : Int), x3, .l c, x5, x6, x7, x8, x9, x10, x11, x12, x13, x14, x15, x16, x17, .l acc] [.i (-1), .i ((j + 1 : Nat) : Int), .l acc'] := fun acc' h => by
      subst h
      refine round_next ⟨⟨x3, x5, x6, x7, x8, x9, x10, x11, x12, x13, x14, x15, x16, x17, o, c, acc ++ [gItem c (cI (el o j) 0)], j + 1, rfl, by omega, hm, by rw [List.length_append]; simp only [List.length_cons, List.length_nil]; omega, ho⟩, ?_, ?_⟩
      · show ((o.length : Int) - ((j + 1 : Nat) : Int)).toNat < ((o.length : Int) - (j : Int)).toNat
        omega
      · show lpG (fun i => [gItem c (cI (el o i) 0)]) o.length (j + 1) (acc ++ [gItem c (cI (el o j) 0)]) = lpG (fun i => [gItem c (cI (el o i) 0)]) o.length j acc
        unfold lpG
        rw [coll_next (f := (fun i => [gItem c (cI (el o i) 0)])) hlt acc]
    have c0 : decide ((j : Int) < (o.length : Int)) = true := decide_eq_true (by omega)
    have c1 : decide ((0 : Int) ≤ (j : Int)) = true := decide_eq_true (by omega)
    have c2 : IntKind.i64.wrap ((j : Int) + 1) = ((j + 1 : Nat) : Int) := nat_wrap (by omega)
    have c4 : ∀ z : List D, decide ((((acc ++ [z]).length : Nat) : Int) ≤ 1599289640401) = true := fun z => decide_eq_true (by rw [List.length_append, List.length_cons, List.length_nil]; omega)
    obtain ⟨e0, e1, e2⟩ := ho j hlt
    have e0' : (o.getD j []).getD 0 default = .i (cI (el o j) 0) := e0
    have hg : gItem c (cI (el o j) 0) = gItem c (cI (el o j) 0) := rfl
    generalize cI (el o j) 0 = i at e0' e1 e2 hn
    have c5 : decide ((0 : Int) ≤ i) = true := decide_eq_true e1
    have c6 : decide (i < (c.length : Int)) = true := decide_eq_true e2
    simp only [rt15_0, VT.ok, Nd.holds, X.ds, X.d, Op1.ev, Op2.ev, List.getD_cons_zero, List.getD_cons_succ, D.int_i, D.bool_b, D.lst_l, Int.toNat_natCast, if_true, implies_true, true_and, c0, c1, c2, c4, e0', c5, c6]
    exact hn _ rfl
  · have hj' : o.length = j := by omega
    subst hj'
    have c0 : decide ((o.length : Int) < (o.length : Int)) = false := decide_eq_false (by omega)
    simp only [rt15_0, VT.ok, Nd.holds, X.ds, X.d, Op1.ev, Op2.ev, List.getD_cons_zero, List.getD_cons_succ, D.int_i, D.bool_b, D.lst_l, Int.toNat_natCast, Bool.false_eq_true, if_false, c0]
    refine round_exit (by omega) ?_
    show lpG (fun i => [gItem c (cI (el o i) 0)]) o.length o.length acc = _
    unfold lpG
    rw [coll_end]
    try rfl
theorem loopM15_1 : LoopMeets Try.prog F (R L15_1.key) L15_1 lb15_1 := by
  refine loop_meets (pre := R) mixed (sgAt_all (P := Try.prog) (pre := R) (Φ := F) (l := sg15) (List.forall_mem_cons.2 ⟨Meets.at (pre := R) (Φ := F) m30, List.forall_mem_cons.2 ⟨Meets.at (pre := R) (Φ := F) m31, List.forall_mem_cons.2 ⟨Meets.at (pre := R) (Φ := F) m32, List.forall_mem_cons.2 ⟨Meets.at (pre := R) (Φ := F) m13, List.forall_mem_cons.2 ⟨Meets.at (pre := R) (Φ := F) m11, (fun _ h => nomatch h)⟩⟩⟩⟩⟩)) (loops_n 0 lk15_1 fun k hk => by omega) L15_1 (fun ρ => ((ρ.getD 0 default).int - (ρ.getD 1 default).int).toNat) le15_1 fun ρ _ hq => ?_
  obtain ⟨x2, x3, x5, x6, x7, x8, x9, x10, x11, x12, x13, x14, x15, x16, n, r, acc, j, rfl, hj, hm, ha, hl, hp⟩ : prB1 ρ := hq
  by_cases hlt : j < n
  · have hn : ∀ acc' : List (List D), acc ++ [rItem r j] = acc' → RoundOk F (R L15_1.key) (fun ρ => ((ρ.getD 0 default).int - (ρ.getD 1 default).int).toNat) L15_1 [.i (n : Int), .i (j : Int), x2, x3, .l r, x5, x6, x7, x8, x9, x10, x11, x12, x13, x14, x15, x16, .l acc] [.i (-1), .i ((j + 1 : Nat) : Int), .l acc'] := fun acc' h => by
      subst h
      refine round_next ⟨⟨x2, x3, x5, x6, x7, x8, x9, x10, x11, x12, x13, x14, x15, x16, n, r, acc ++ [rItem r j], j + 1, rfl, by omega, hm, by rw [List.length_append]; simp only [List.length_cons, List.length_nil]; omega, hl, hp⟩, ?_, ?_⟩
      · show ((n : Int) - ((j + 1 : Nat) : Int)).toNat < ((n : Int) - (j : Int)).toNat
        omega
      · show lpG (fun i => [rItem r i]) n (j + 1) (acc ++ [rItem r j]) = lpG (fun i => [rItem r i]) n j acc
        unfold lpG
        rw [coll_next (f := (fun i => [rItem r i])) hlt acc]
    have c0 : decide ((j : Int) < (n : Int)) = true := decide_eq_true (by omega)
    have c1 : decide ((0 : Int) ≤ (j : Int)) = true := decide_eq_true (by omega)
    have c2 : IntKind.i64.wrap ((j : Int) + 1) = ((j + 1 : Nat) : Int) := nat_wrap (by omega)
    have c4 : ∀ z : List D, decide ((((acc ++ [z]).length : Nat) : Int) ≤ 1599289640401) = true := fun z => decide_eq_true (by rw [List.length_append, List.length_cons, List.length_nil]; omega)
    obtain ⟨e0, e1⟩ := hp j (by omega)
    have e0' : (r.getD j []).getD 0 default = .l (cL (el r j) 0) := e0
    have hr : rItem r j = [.i 3, .i (j : Int), .i 0, .i 0, .i 0, .i 0, .l (cL (el r j) 0), .s ⟨#[]⟩] := rfl
    rw [hr] at hn
    generalize cL (el r j) 0 = ps at e0' e1 hn
    have c5 : decide ((j : Int) < (r.length : Int)) = true := decide_eq_true (by omega)
    have hcl : ∀ xs, cloneD [.l xs] = [.l xs] := fun _ => rfl
    simp only [rt15_1, VT.ok, Nd.holds, X.outs, X.ds, X.d, Op1.ev, Op2.ev, takeD_zero, takeD_cons, List.cons_append, List.nil_append, List.getD_cons_zero, List.getD_cons_succ, D.int_i, D.bool_b, D.lst_l, Int.toNat_natCast, if_true, implies_true, true_and, F32, R32, c0, c1, c2, c4, c5, e0', hcl]
    exact ⟨fun _ => ⟨ps, rfl, e1⟩, hn _ rfl⟩
  · have hj' : n = j := by omega
    subst hj'
    have c0 : decide ((n : Int) < (n : Int)) = false := decide_eq_false (by omega)
    simp only [rt15_1, VT.ok, Nd.holds, X.outs, X.ds, X.d, Op1.ev, Op2.ev, List.cons_append, List.nil_append, List.getD_cons_zero, List.getD_cons_succ, D.int_i, D.bool_b, D.lst_l, Int.toNat_natCast, Bool.false_eq_true, if_false, takeD1_0, c0]
    refine round_exit (by omega) ?_
    show lpG (fun i => [rItem r i]) n n acc = _
    unfold lpG
    rw [coll_end]
    try rfl
theorem loopM15_2 : LoopMeets Try.prog F (R L15_2.key) L15_2 lb15_2 := by
  refine loop_meets (pre := R) mixed (sgAt_all (P := Try.prog) (pre := R) (Φ := F) (l := sg15) (List.forall_mem_cons.2 ⟨Meets.at (pre := R) (Φ := F) m30, List.forall_mem_cons.2 ⟨Meets.at (pre := R) (Φ := F) m31, List.forall_mem_cons.2 ⟨Meets.at (pre := R) (Φ := F) m32, List.forall_mem_cons.2 ⟨Meets.at (pre := R) (Φ := F) m13, List.forall_mem_cons.2 ⟨Meets.at (pre := R) (Φ := F) m11, (fun _ h => nomatch h)⟩⟩⟩⟩⟩)) (loops_n 0 lk15_2 fun k hk => by omega) L15_2 (fun ρ => ((ρ.getD 0 default).int - (ρ.getD 1 default).int).toNat) le15_2 fun ρ _ hq => ?_
  obtain ⟨x3, x4, x5, x6, x7, x8, x9, x10, x11, x12, x13, x14, x15, x16, n, b, acc, j, rfl, hj, hm, ha, hl⟩ : prB2 ρ := hq
  by_cases hlt : j < n
  · have hn : ∀ acc' : List (List D), acc ++ [nItem b j] = acc' → RoundOk F (R L15_2.key) (fun ρ => ((ρ.getD 0 default).int - (ρ.getD 1 default).int).toNat) L15_2 [.i (n : Int), .i (j : Int), .l b, x3, x4, x5, x6, x7, x8, x9, x10, x11, x12, x13, x14, x15, x16, .l acc] [.i (-1), .i ((j + 1 : Nat) : Int), .l acc'] := fun acc' h => by
      subst h
      refine round_next ⟨⟨x3, x4, x5, x6, x7, x8, x9, x10, x11, x12, x13, x14, x15, x16, n, b, acc ++ [nItem b j], j + 1, rfl, by omega, hm, by rw [List.length_append]; simp only [List.length_cons, List.length_nil]; omega, hl⟩, ?_, ?_⟩
      · show ((n : Int) - ((j + 1 : Nat) : Int)).toNat < ((n : Int) - (j : Int)).toNat
        omega
      · show lpG (fun i => [nItem b i]) n (j + 1) (acc ++ [nItem b j]) = lpG (fun i => [nItem b i]) n j acc
        unfold lpG
        rw [coll_next (f := (fun i => [nItem b i])) hlt acc]
    have c0 : decide ((j : Int) < (n : Int)) = true := decide_eq_true (by omega)
    have c1 : decide ((0 : Int) ≤ (j : Int)) = true := decide_eq_true (by omega)
    have c2 : IntKind.i64.wrap ((j : Int) + 1) = ((j + 1 : Nat) : Int) := nat_wrap (by omega)
    have c4 : ∀ z : List D, decide ((((acc ++ [z]).length : Nat) : Int) ≤ 1599289640401) = true := fun z => decide_eq_true (by rw [List.length_append, List.length_cons, List.length_nil]; omega)
    have c5 : decide ((j : Int) < (b.length : Int)) = true := decide_eq_true (by omega)
    simp only [rt15_2, VT.ok, Nd.holds, X.ds, X.d, Op1.ev, Op2.ev, List.getD_cons_zero, List.getD_cons_succ, D.int_i, D.bool_b, D.lst_l, Int.toNat_natCast, if_true, implies_true, true_and, c0, c1, c2, c4, c5]
    exact hn _ rfl
  · have hj' : n = j := by omega
    subst hj'
    have c0 : decide ((n : Int) < (n : Int)) = false := decide_eq_false (by omega)
    simp only [rt15_2, VT.ok, Nd.holds, X.ds, X.d, Op1.ev, Op2.ev, List.getD_cons_zero, List.getD_cons_succ, D.int_i, D.bool_b, D.lst_l, Int.toNat_natCast, Bool.false_eq_true, if_false, c0]
    refine round_exit (by omega) ?_
    show lpG (fun i => [nItem b i]) n n acc = _
    unfold lpG
    rw [coll_end]
    try rfl
theorem loopM15_3 : LoopMeets Try.prog F (R L15_3.key) L15_3 lb15_3 := by
  refine loop_meets (pre := R) mixed (sgAt_all (P := Try.prog) (pre := R) (Φ := F) (l := sg15) (List.forall_mem_cons.2 ⟨Meets.at (pre := R) (Φ := F) m30, List.forall_mem_cons.2 ⟨Meets.at (pre := R) (Φ := F) m31, List.forall_mem_cons.2 ⟨Meets.at (pre := R) (Φ := F) m32, List.forall_mem_cons.2 ⟨Meets.at (pre := R) (Φ := F) m13, List.forall_mem_cons.2 ⟨Meets.at (pre := R) (Φ := F) m11, (fun _ h => nomatch h)⟩⟩⟩⟩⟩)) (loops_n 0 lk15_3 fun k hk => by omega) L15_3 (fun ρ => ((ρ.getD 1 default).int - (ρ.getD 2 default).int).toNat) le15_3 fun ρ _ hq => ?_
  obtain ⟨x4, x5, x6, x7, x8, x9, x10, x11, x12, x13, x14, x15, x16, x17, N, b, acc, j, rfl, hj, hm, ha, hl⟩ : prB3 ρ := hq
  by_cases hlt : j < N.length
  · have hn : ∀ acc' : List (List D), acc ++ (lItem N 1 b) j = acc' → RoundOk F (R L15_3.key) (fun ρ => ((ρ.getD 1 default).int - (ρ.getD 2 default).int).toNat) L15_3 [.l N, .i (N.length : Int), .i (j : Int), .l b, x4, x5, x6, x7, x8, x9, x10, x11, x12, x13, x14, x15, x16, x17, .l acc] [.i (-1), .i ((j + 1 : Nat) : Int), .l acc'] := fun acc' h => by
      subst h
      refine round_next ⟨⟨x4, x5, x6, x7, x8, x9, x10, x11, x12, x13, x14, x15, x16, x17, N, b, acc ++ (lItem N 1 b) j, j + 1, rfl, by omega, hm, by rw [List.length_append]; have := lItem_len N 1 b j; omega, hl⟩, ?_, ?_⟩
      · show ((N.length : Int) - ((j + 1 : Nat) : Int)).toNat < ((N.length : Int) - (j : Int)).toNat
        omega
      · show lpG (lItem N 1 b) N.length (j + 1) (acc ++ (lItem N 1 b) j) = lpG (lItem N 1 b) N.length j acc
        unfold lpG
        rw [coll_next (f := (lItem N 1 b)) hlt acc]
    have c0 : decide ((j : Int) < (N.length : Int)) = true := decide_eq_true (by omega)
    have c1 : decide ((0 : Int) ≤ (j : Int)) = true := decide_eq_true (by omega)
    have c2 : IntKind.i64.wrap ((j : Int) + 1) = ((j + 1 : Nat) : Int) := nat_wrap (by omega)
    have c4 : ∀ z : List D, decide ((((acc ++ [z]).length : Nat) : Int) ≤ 1599289640401) = true := fun z => decide_eq_true (by rw [List.length_append, List.length_cons, List.length_nil]; omega)
    have c5 : decide ((j : Int) < (b.length : Int)) = true := decide_eq_true (by omega)
    have hT : lItem N 1 b j = if (!(cS (el N j) 1 == ⟨#[]⟩)) = true then [tItem b j ((el N j).getD 1 default)] else [] := rfl
    cases hb : (!(cS (el N j) 1 == ⟨#[]⟩))
    · have hb' : (!(((N.getD j []).getD 1 default).str == ⟨#[]⟩)) = false := hb
      rw [hb, if_neg (by decide)] at hT
      simp only [rt15_3, VT.ok, Nd.holds, X.ds, X.d, Op1.ev, Op2.ev, List.getD_cons_zero, List.getD_cons_succ, D.int_i, D.bool_b, D.lst_l, D.str_s, Int.toNat_natCast, if_true, Bool.false_eq_true, if_false, implies_true, true_and, c0, c1, c2, c4, c5, hb']
      exact hn acc (by rw [hT, List.append_nil])
    · have hb' : (!(((N.getD j []).getD 1 default).str == ⟨#[]⟩)) = true := hb
      rw [hb, if_pos rfl] at hT
      simp only [rt15_3, VT.ok, Nd.holds, X.ds, X.d, Op1.ev, Op2.ev, List.getD_cons_zero, List.getD_cons_succ, D.int_i, D.bool_b, D.lst_l, D.str_s, Int.toNat_natCast, if_true, implies_true, true_and, c0, c1, c2, c4, c5, hb']
      exact hn _ (by rw [hT]; rfl)
  · have hj' : N.length = j := by omega
    subst hj'
    have c0 : decide ((N.length : Int) < (N.length : Int)) = false := decide_eq_false (by omega)
    simp only [rt15_3, VT.ok, Nd.holds, X.ds, X.d, Op1.ev, Op2.ev, List.getD_cons_zero, List.getD_cons_succ, D.int_i, D.bool_b, D.lst_l, D.str_s, Int.toNat_natCast, Bool.false_eq_true, if_false, c0]
    refine round_exit (by omega) ?_
    show lpG (lItem N 1 b) N.length N.length acc = _
    unfold lpG
    rw [coll_end]
    try rfl
theorem loopM15_4 : LoopMeets Try.prog F (R L15_4.key) L15_4 lb15_4 := by
  refine loop_meets (pre := R) mixed (sgAt_all (P := Try.prog) (pre := R) (Φ := F) (l := sg15) (List.forall_mem_cons.2 ⟨Meets.at (pre := R) (Φ := F) m30, List.forall_mem_cons.2 ⟨Meets.at (pre := R) (Φ := F) m31, List.forall_mem_cons.2 ⟨Meets.at (pre := R) (Φ := F) m32, List.forall_mem_cons.2 ⟨Meets.at (pre := R) (Φ := F) m13, List.forall_mem_cons.2 ⟨Meets.at (pre := R) (Φ := F) m11, (fun _ h => nomatch h)⟩⟩⟩⟩⟩)) (loops_n 0 lk15_4 fun k hk => by omega) L15_4 (fun ρ => ((ρ.getD 1 default).int - (ρ.getD 2 default).int).toNat) le15_4 fun ρ _ hq => ?_
  obtain ⟨x3, x4, x5, x7, x8, x9, x10, x11, x12, x13, x14, x15, x16, x17, N, b, acc, j, rfl, hj, hm, ha, hl⟩ : prB4 ρ := hq
  by_cases hlt : j < N.length
  · have hn : ∀ acc' : List (List D), acc ++ (mItem N b) j = acc' → RoundOk F (R L15_4.key) (fun ρ => ((ρ.getD 1 default).int - (ρ.getD 2 default).int).toNat) L15_4 [.l N, .i (N.length : Int), .i (j : Int), x3, x4, x5, .l b, x7, x8, x9, x10, x11, x12, x13, x14, x15, x16, x17, .l acc] [.i (-1), .i ((j + 1 : Nat) : Int), .l acc'] := fun acc' h => by
      subst h
      refine round_next ⟨⟨x3, x4, x5, x7, x8, x9, x10, x11, x12, x13, x14, x15, x16, x17, N, b, acc ++ (mItem N b) j, j + 1, rfl, by omega, hm, by rw [List.length_append]; have := mItem_len N b j; omega, hl⟩, ?_, ?_⟩
      · show ((N.length : Int) - ((j + 1 : Nat) : Int)).toNat < ((N.length : Int) - (j : Int)).toNat
        omega
      · show lpG (mItem N b) N.length (j + 1) (acc ++ (mItem N b) j) = lpG (mItem N b) N.length j acc
        unfold lpG
        rw [coll_next (f := (mItem N b)) hlt acc]
    have c0 : decide ((j : Int) < (N.length : Int)) = true := decide_eq_true (by omega)
    have c1 : decide ((0 : Int) ≤ (j : Int)) = true := decide_eq_true (by omega)
    have c2 : IntKind.i64.wrap ((j : Int) + 1) = ((j + 1 : Nat) : Int) := nat_wrap (by omega)
    have c4 : ∀ z : List D, decide ((((acc ++ [z]).length : Nat) : Int) ≤ 1599289640401) = true := fun z => decide_eq_true (by rw [List.length_append, List.length_cons, List.length_nil]; omega)
    have c5 : decide ((j : Int) < (b.length : Int)) = true := decide_eq_true (by omega)
    have hT : mItem N b j = if (!(cS (el N j) 4 == ⟨#[]⟩) && !sameQ (rQ (el b j) 0) z4) = true then [tItem b j ((el N j).getD 4 default)] else [] := rfl
    cases hb : (!(cS (el N j) 4 == ⟨#[]⟩) && !sameQ (rQ (el b j) 0) z4)
    · have hb' : (!(((N.getD j []).getD 4 default).str == ⟨#[]⟩) && !((((b.getD j []).getD 0 default).int == 0) && ((((b.getD j []).getD 1 default).int == 0) && ((((b.getD j []).getD 2 default).int == 0) && (((b.getD j []).getD 3 default).int == 0))))) = false := hb
      rw [hb, if_neg (by decide)] at hT
      simp only [rt15_4, VT.ok, Nd.holds, X.ds, X.d, Op1.ev, Op2.ev, List.getD_cons_zero, List.getD_cons_succ, D.int_i, D.bool_b, D.lst_l, D.str_s, ite_b, ite_and, Int.toNat_natCast, if_true, Bool.false_eq_true, if_false, implies_true, true_and, c0, c1, c2, c4, c5, hb']
      exact hn acc (by rw [hT, List.append_nil])
    · have hb' : (!(((N.getD j []).getD 4 default).str == ⟨#[]⟩) && !((((b.getD j []).getD 0 default).int == 0) && ((((b.getD j []).getD 1 default).int == 0) && ((((b.getD j []).getD 2 default).int == 0) && (((b.getD j []).getD 3 default).int == 0))))) = true := hb
      rw [hb, if_pos rfl] at hT
      simp only [rt15_4, VT.ok, Nd.holds, X.ds, X.d, Op1.ev, Op2.ev, List.getD_cons_zero, List.getD_cons_succ, D.int_i, D.bool_b, D.lst_l, D.str_s, ite_b, ite_and, Int.toNat_natCast, if_true, implies_true, true_and, c0, c1, c2, c4, c5, hb']
      exact hn _ (by rw [hT]; rfl)
  · have hj' : N.length = j := by omega
    subst hj'
    have c0 : decide ((N.length : Int) < (N.length : Int)) = false := decide_eq_false (by omega)
    simp only [rt15_4, VT.ok, Nd.holds, X.ds, X.d, Op1.ev, Op2.ev, List.getD_cons_zero, List.getD_cons_succ, D.int_i, D.bool_b, D.lst_l, D.str_s, ite_b, ite_and, Int.toNat_natCast, Bool.false_eq_true, if_false, c0]
    refine round_exit (by omega) ?_
    show lpG (mItem N b) N.length N.length acc = _
    unfold lpG
    rw [coll_end]
    try rfl
end Go.Proofs.Ythpppbfiiphgoaa.rv
