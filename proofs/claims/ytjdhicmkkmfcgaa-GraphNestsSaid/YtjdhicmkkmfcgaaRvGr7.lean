/-
  Graphs: clusters around a cluster; clusters; edges.
-/
import Derived.Test.YtjdhicmkkmfcgaaRvGr6
namespace Go.Proofs.Ytjdhicmkkmfcgaa.rv
open Go.RV

theorem up_fuel {C : List (List D)} : ∀ (f f' : Nat) (c : Int), c < f → c < f' → okC C (c + 1).toNat → up C f c = up C f' c
  | 0, 0, _, _, _, _ => rfl
  | 0, f' + 1, c, h, _, _ => by simp only [up]; rw [if_neg (by omega)]
  | f + 1, 0, c, _, h, _ => by simp only [up]; rw [if_neg (by omega)]
  | f + 1, f' + 1, c, h, h', hok => by
    simp only [up]
    by_cases h0 : 0 ≤ c
    · rw [if_pos h0, if_pos h0]
      have := hok c.toNat (by omega)
      rw [up_fuel f f' _ (by omega) (by omega) (hok.mono (by omega))]
    · rw [if_neg h0, if_neg h0]
theorem around_neg {C : List (List D)} {c : Int} (h : c < 0) : around C c = [] := by
  unfold around up; rw [if_neg (by omega)]
theorem around_at {C : List (List D)} {c : Int} (h0 : 0 ≤ c) (hok : okC C (c + 1).toNat) : around C c = c :: around C (cI (el C c.toNat) 1) := by
  have hb := hok c.toNat (by omega)
  unfold around
  simp only [up]
  rw [if_pos h0]
  congr 1
  exact up_fuel c.toNat ((cI (el C c.toNat) 1).toNat + 1) (cI (el C c.toNat) 1) (by omega) (by omega) (hok.mono (m := (cI (el C c.toNat) 1 + 1).toNat) (by omega))
theorem atC_up {C : List (List D)} {c : Int} (h : atC C c) (h0 : 0 ≤ c) : atC C (cI (el C c.toNat) 1) := by
  obtain ⟨h1, h2, h3, h4⟩ := h
  have hb := h4 c.toNat (by omega)
  exact ⟨by omega, by omega, h3, h4.mono (m := (cI (el C c.toNat) 1 + 1).toNat) (by omega)⟩
theorem around_len {C : List (List D)} : ∀ (n : Nat) (c : Int), c < n → okC C (c + 1).toNat → (around C c).length ≤ (c + 1).toNat
  | 0, c, h, _ => by rw [around_neg (by omega)]; simp
  | n + 1, c, h, hok => by
    by_cases h0 : 0 ≤ c
    · have hb := hok c.toNat (by omega)
      have := around_len n (cI (el C c.toNat) 1) (by omega) (hok.mono (by omega))
      rw [around_at h0 hok, List.length_cons]
      omega
    · rw [around_neg (by omega)]; simp
theorem rowI1_of {C : List (List D)} (h : ∀ x ∈ C, FitsF [.str, .int .i64] x) : rowI1 C := fun i hi => by
  have hx := h (el C i) (getD_mem [] hi)
  obtain ⟨a, b, e, _, hb⟩ := fits2 hx
  obtain ⟨z, rfl, _⟩ := wf_i64 hb
  simp only [cI, e]; rfl

theorem loopM43_0 : LoopMeets Try.prog F (R L43_0.key) L43_0 lb43_0 := by
  refine loop_meets (pre := R) mixed (sgAt_all (P := Try.prog) (pre := R) (Φ := F) (l := sg43) ((fun _ h => nomatch h))) (loops_n 0 lk43_0 fun k hk => by omega) L43_0 (fun ρ => ((ρ.getD 0 default).int + 1).toNat) le43_0 fun ρ _ hq => ?_
  obtain ⟨c, g, acc, rfl, hat, hrow, hacc⟩ : prArL ρ := hq
  have hat0 := hat
  obtain ⟨h1, h2, h3, h4⟩ := hat
  by_cases h0 : 0 ≤ c
  · have hn : c.toNat < g.C.length := by omega
    have hr : (g.C.getD c.toNat []).getD 1 default = .i (cI (el g.C c.toNat) 1) := hrow _ hn
    have hb := h4 c.toNat (by omega)
    simp (disch := omega) only [rt43_0, VT.ok, Nd.holds, X.ds, X.d, Op1.ev, Op2.ev, List.getD_cons_zero, List.getD_cons_succ, D.int_i, D.bool_b, D.lst_l, implies_true, true_and, ↓reduceIte, dle_t, dlt_t, hr, List.length_append, List.length_cons, List.length_nil]
    refine round_next ⟨⟨cI (el g.C c.toNat) 1, g, acc ++ [[.i c]], rfl, atC_up hat0 h0, hrow, by rw [List.length_append, List.length_cons, List.length_nil]; omega⟩, ?_, ?_⟩
    · show (cI (el g.C c.toNat) 1 + 1).toNat < (c + 1).toNat
      omega
    · show lpAr [.i (cI (el g.C c.toNat) 1), .s g.nm, .b g.dr, .l g.N, .l g.E, .l g.C, .l (acc ++ [[.i c]])] = lpAr [.i c, .s g.nm, .b g.dr, .l g.N, .l g.E, .l g.C, .l acc]
      simp only [lpAr, around_at h0 h4, List.map_cons, List.append_assoc, List.cons_append, List.nil_append]
      rfl
  · simp (disch := omega) only [rt43_0, VT.ok, X.ds, X.d, Op2.ev, List.getD_cons_zero, List.getD_cons_succ, D.int_i, D.bool_b, Bool.false_eq_true, ↓reduceIte, dle_f]
    refine round_exit (by omega) ?_
    show lpAr [.i c, .s g.nm, .b g.dr, .l g.N, .l g.E, .l g.C, .l acc] = _
    have : c = -1 := by omega
    subst this
    simp only [lpAr, around_neg (show (-1 : Int) < 0 by omega), List.map_nil, List.append_nil]
theorem m43 : Meets Try.prog 43 S43 (R 43) (F 43) := by
  refine meets_of_vt (pre := R) (Φ := F) mixed (sgAt_all (P := Try.prog) (pre := R) (Φ := F) (l := sg43) ((fun _ h => nomatch h))) Try.func43 b43 n43 (loops_n 1 k43 fun k hk => match k, hk with | 0, _ => loop_this lf43_0 loopM43_0) e43 fun ds hf hq => ?_
  obtain ⟨g, ds', rfl, h5, _, _, _, ⟨_, hC⟩⟩ := fitsG hf.flat
  obtain ⟨x, rfl, hx⟩ := fits1 h5
  obtain ⟨c, rfl, _⟩ := wf_i64 hx
  have hq : atC g.C c := hq
  have hpre : prArL [.i c, .s g.nm, .b g.dr, .l g.N, .l g.E, .l g.C, .l []] := ⟨c, g, [], rfl, hq, rowI1_of hC, by have := hq.1; have := hq.2.1; have := hq.2.2.1; simp; omega⟩
  simp only [vt43, VT.ok, Nd.holds, X.outs, X.ds, X.d, takeD_zero, takeD_cons, List.cons_append, List.nil_append, List.getD_cons_zero, List.getD_cons_succ, D.int_i, D.bool_b, D.lst_l, and_true, F14300, R14300, F43, lpAr, aroundD, cL, cI]
  exact fun _ => hpre
theorem m45 : Meets Try.prog 45 S45 (R 45) (F 45) := by
  refine meets_of_vt (pre := R) (Φ := F) mixed (sgAt_all (P := Try.prog) (pre := R) (Φ := F) (l := sg45) (List.forall_mem_cons.2 ⟨Meets.at (pre := R) (Φ := F) m43, (fun _ h => nomatch h)⟩)) Try.func45 b45 n45 (loops_n 0 k45 fun k hk => by omega) e45 fun ds hf hq => ?_
  obtain ⟨g, ds', rfl, h5, _⟩ := fitsG hf.flat
  obtain ⟨x, rfl, hx⟩ := fits1 h5
  simp only [vt45, VT.ok, Nd.holds, X.outs, X.ds, X.d, Op1.ev, takeD_zero, takeD_cons, List.cons_append, List.nil_append, List.getD_cons_zero, List.getD_cons_succ, D.bool_b, D.lst_l, List.length_map, and_true, F43, R43, F45, aroundD, depthD, depth, cL, cI]
  exact fun _ => hq
theorem depth_at {C : List (List D)} {c : Int} (h0 : 0 ≤ c) (hok : okC C (c + 1).toNat) : depth C c = depth C (cI (el C c.toNat) 1) + 1 := by
  unfold depth; rw [around_at h0 hok]; simp
theorem depth_neg {C : List (List D)} {c : Int} (h : c < 0) : depth C c = 0 := by unfold depth; rw [around_neg h]; rfl
theorem loopM46_0 : LoopMeets Try.prog F (R L46_0.key) L46_0 lb46_0 := by
  refine loop_meets (pre := R) mixed (sgAt_all (P := Try.prog) (pre := R) (Φ := F) (l := sg46) ((fun _ h => nomatch h))) (loops_n 0 lk46_0 fun k hk => by omega) L46_0 (fun ρ => ((ρ.getD 0 default).int + 1).toNat) le46_0 fun ρ _ hq => ?_
  obtain ⟨c, n, g, rfl, hat, hrow, hn0, hacc⟩ : prDep ρ := hq
  have hat0 := hat
  obtain ⟨h1, h2, h3, h4⟩ := hat
  by_cases h0 : 0 ≤ c
  · have hn : c.toNat < g.C.length := by omega
    have hr : (g.C.getD c.toNat []).getD 1 default = .i (cI (el g.C c.toNat) 1) := hrow _ hn
    have hb := h4 c.toNat (by omega)
    simp (disch := omega) only [rt46_0, VT.ok, Nd.holds, X.ds, X.d, Op1.ev, Op2.ev, List.getD_cons_zero, List.getD_cons_succ, D.int_i, D.bool_b, D.lst_l, implies_true, true_and, ↓reduceIte, dle_t, dlt_t, w64', hr]
    refine round_next ⟨⟨cI (el g.C c.toNat) 1, n + 1, g, rfl, atC_up hat0 h0, hrow, by omega, by omega⟩, ?_, ?_⟩
    · show (cI (el g.C c.toNat) 1 + 1).toNat < (c + 1).toNat
      omega
    · show lpDep [.i (cI (el g.C c.toNat) 1), .i (n + 1), .s g.nm, .b g.dr, .l g.N, .l g.E, .l g.C] = lpDep [.i c, .i n, .s g.nm, .b g.dr, .l g.N, .l g.E, .l g.C]
      simp only [lpDep, depth_at h0 h4]
      rw [show n + 1 + depth g.C (cI (el g.C c.toNat) 1) = n + (depth g.C (cI (el g.C c.toNat) 1) + 1) by omega]
  · simp (disch := omega) only [rt46_0, VT.ok, X.ds, X.d, Op2.ev, List.getD_cons_zero, List.getD_cons_succ, D.int_i, D.bool_b, Bool.false_eq_true, ↓reduceIte, dle_f]
    refine round_exit (by omega) ?_
    show lpDep [.i c, .i n, .s g.nm, .b g.dr, .l g.N, .l g.E, .l g.C] = _
    have : c = -1 := by omega
    subst this
    simp only [lpDep, depth_neg (show (-1 : Int) < 0 by omega), Int.add_zero]
theorem m46 : Meets Try.prog 46 S46 (R 46) (F 46) := by
  refine meets_of_vt (pre := R) (Φ := F) mixed (sgAt_all (P := Try.prog) (pre := R) (Φ := F) (l := sg46) ((fun _ h => nomatch h))) Try.func46 b46 n46 (loops_n 1 k46 fun k hk => match k, hk with | 0, _ => loop_this lf46_0 loopM46_0) e46 fun ds hf hq => ?_
  obtain ⟨g, ds', rfl, h5, _, _, _, ⟨_, hC⟩⟩ := fitsG hf.flat
  obtain ⟨x, rfl, hx⟩ := fits1 h5
  obtain ⟨c, rfl, _⟩ := wf_i64 hx
  have hq : atC g.C c := hq
  have hpre : prDep [.i c, .i 0, .s g.nm, .b g.dr, .l g.N, .l g.E, .l g.C] := ⟨c, 0, g, rfl, hq, rowI1_of hC, by omega, by have := hq.2.1; have := hq.2.2.1; omega⟩
  simp only [vt46, VT.ok, Nd.holds, X.outs, X.ds, X.d, takeD_zero, takeD_cons, List.cons_append, List.nil_append, List.getD_cons_zero, List.getD_cons_succ, D.int_i, D.bool_b, D.lst_l, and_true, F14600, R14600, F46, lpDep, depthD, cL, cI, Int.zero_add]
  exact fun _ => hpre

/-! ### clusters -/
theorem m29 : Meets Try.prog 29 S29 (R 29) (F 29) := by
  refine meets_of_vt (pre := R) (Φ := F) mixed (sgAt_all (P := Try.prog) (pre := R) (Φ := F) (l := sg29) (List.forall_mem_cons.2 ⟨Meets.at (pre := R) (Φ := F) m27, List.forall_mem_cons.2 ⟨Meets.at (pre := R) (Φ := F) m11, List.forall_mem_cons.2 ⟨Meets.at (pre := R) (Φ := F) m52, List.forall_mem_cons.2 ⟨Meets.at (pre := R) (Φ := F) m45, (fun _ h => nomatch h)⟩⟩⟩⟩)) Try.func29 b29 n29 (loops_n 0 k29 fun k hk => by omega) e29 fun ds hf hq => ?_
  obtain ⟨g, ds', rfl, h5, _, _, _, ⟨_, hC⟩⟩ := fitsG hf.flat
  obtain ⟨x, rfl, hx⟩ := fits1 h5
  obtain ⟨i, e, hi, h16, hok⟩ : prClu (.s g.nm :: .b g.dr :: .l g.N :: .l g.E :: .l g.C :: [x]) := hq
  have e : x = .i (i : Int) := e
  subst e
  have hi : i < g.C.length := hi
  have h16 : g.C.length ≤ 16 := h16
  have hok : okC g.C i := hok
  have hF : F 29 (.s g.nm :: .b g.dr :: .l g.N :: .l g.E :: .l g.C :: [.i (i : Int)]) = [.i (cluE g.N g.C i)] := rfl
  rw [hF]
  generalize hv : cluE g.N g.C i = res
  unfold cluE at hv
  simp (disch := omega) only [vt29, VT.ok, Nd.holds, X.outs, X.ds, X.d, Op1.ev, Op2.ev, takeD_zero, takeD_cons, List.cons_append, List.nil_append, List.getD_cons_zero, List.getD_cons_succ, D.int_i, D.bool_b, D.lst_l, ite_b, ite_or, Int.toNat_natCast, implies_true, true_and, takeD1_0, F27, R27, F11, R11, F52, R52, F45, R45, dle_t, dlt_t, nameD, findD, depthD, cS, cI, cL, Int.toNat_natCast]
  cases h1 : isName (cS (el g.C i) 0)
  · rw [h1] at hv
    simp only [Bool.not_false, if_true]
    rw [← hv]; rfl
  · simp only [h1, if_true] at hv
    simp only [Bool.not_true, Bool.false_eq_true, if_false]
    refine ⟨fun _ k _ => ⟨_, cellsN 2 _, rfl, rfl, cellsN_length 2 _⟩, ?_⟩
    show if (if decide (0 ≤ find g.N (cS (el g.C i) 0)) = true then D.b true else D.b (anyN (nmP (g.C.take i) (cS (el g.C i) 0)) (g.C.take i).length)).bool = true then _ else _
    rw [any_take (by omega)]
    simp only [ite_b, ite_or, D.bool_b]
    cases h2 : (decide (0 ≤ find g.N (cS (el g.C i) 0)) || anyN (nmP g.C (cS (el g.C i) 0)) i)
    · rw [h2] at hv
      simp only [Bool.false_eq_true, if_false] at hv ⊢
      by_cases h3 : cI (el g.C i) 1 < -1 ∨ (i : Int) ≤ cI (el g.C i) 1
      · rw [if_pos h3] at hv
        rw [if_pos (by exact dor_t h3), ← hv]
      · rw [if_neg h3] at hv
        rw [if_neg (by exact dor_f h3)]
        have hat : atC g.C i := ⟨by omega, by omega, h16, fun k hk => by
          by_cases e : k = i
          · subst e; omega
          · exact hok k (by omega)⟩
        refine ⟨fun _ => hat, ?_⟩
        by_cases h4 : 6 < depth g.C i
        · rw [if_pos h4] at hv
          rw [if_pos (by exact dec_t h4), ← hv]
        · rw [if_neg h4] at hv
          rw [if_neg (by exact dec_f h4), ← hv]
    · rw [h2] at hv
      simp only [if_true] at hv ⊢
      rw [← hv]
theorem loopM33_0 : LoopMeets Try.prog F (R L33_0.key) L33_0 lb33_0 := by
  refine loop_meets (pre := R) mixed (sgAt_all (P := Try.prog) (pre := R) (Φ := F) (l := sg33) (List.forall_mem_cons.2 ⟨Meets.at (pre := R) (Φ := F) m31, List.forall_mem_cons.2 ⟨Meets.at (pre := R) (Φ := F) m12, List.forall_mem_cons.2 ⟨Meets.at (pre := R) (Φ := F) m46, (fun _ h => nomatch h)⟩⟩⟩)) (loops_n 0 lk33_0 fun k hk => by omega) L33_0 (fun ρ => ((ρ.getD 0 default).int - (ρ.getD 2 default).int).toNat) le33_0 fun ρ _ hq => ?_
  obtain ⟨i, v, g, nm, z, j, rfl, hj, hi, hm⟩ : prCluR ρ := hq
  rw [maxLen_val] at hm
  by_cases hlt : j < i
  · simp (disch := omega) only [rt33_0, VT.ok, Nd.holds, X.ds, X.d, Op1.ev, Op2.ev, List.getD_cons_zero, List.getD_cons_succ, D.int_i, D.bool_b, D.lst_l, D.str_s, Int.toNat_natCast, implies_true, true_and, ↓reduceIte, dle_t, dlt_t, w64']
    show if nmP g.C nm j = true then _ else _
    cases hb : nmP g.C nm j
    · simp only [Bool.false_eq_true, if_false]
      refine round_next ⟨⟨i, v, g, nm, z, j + 1, rfl, by omega, hi, hm⟩, ?_, ?_⟩
      · show ((i : Int) - ((j + 1 : Nat) : Int)).toNat < ((i : Int) - (j : Int)).toNat
        omega
      · show lpCluR [.i (i : Int), v, .i ((j + 1 : Nat) : Int), .s g.nm, .b g.dr, .l g.N, .l g.E, .l g.C, .s nm, z] = lpCluR [.i (i : Int), v, .i (j : Int), .s g.nm, .b g.dr, .l g.N, .l g.E, .l g.C, .s nm, z]
        simp only [lpCluR, Int.toNat_natCast]
        exact scan_next hlt hb
    · simp only [if_true]
      refine round_exit (by omega) ?_
      show lpCluR [.i (i : Int), v, .i (j : Int), .s g.nm, .b g.dr, .l g.N, .l g.E, .l g.C, .s nm, z] = _
      simp only [lpCluR, Int.toNat_natCast]
      exact scan_hit hlt hb
  · have hj' : j = i := by omega
    subst hj'
    simp (disch := omega) only [rt33_0, VT.ok, X.ds, X.d, Op2.ev, List.getD_cons_zero, List.getD_cons_succ, D.int_i, D.bool_b, Bool.false_eq_true, ↓reduceIte, dlt_f]
    refine round_exit (by omega) ?_
    show lpCluR [.i (j : Int), v, .i (j : Int), .s g.nm, .b g.dr, .l g.N, .l g.E, .l g.C, .s nm, z] = _
    simp only [lpCluR, Int.toNat_natCast]
    exact scan_end
theorem row_s {C : List (List D)} {c : List CT} (h : ∀ x ∈ C, FitsF (.str :: c) x) {i : Nat} (hi : i < C.length) : (el C i).getD 0 default = .s (cS (el C i) 0) := by
  have hx := h (el C i) (getD_mem [] hi)
  match e : el C i, hx with
  | a :: bs, ⟨h0, _⟩ =>
    obtain ⟨s, rfl, _⟩ := wf_str h0
    rfl
theorem m33 : Meets Try.prog 33 S33 (R 33) (F 33) := by
  refine meets_of_vt (pre := R) (Φ := F) mixed (sgAt_all (P := Try.prog) (pre := R) (Φ := F) (l := sg33) (List.forall_mem_cons.2 ⟨Meets.at (pre := R) (Φ := F) m31, List.forall_mem_cons.2 ⟨Meets.at (pre := R) (Φ := F) m12, List.forall_mem_cons.2 ⟨Meets.at (pre := R) (Φ := F) m46, (fun _ h => nomatch h)⟩⟩⟩)) Try.func33 b33 n33 (loops_n 1 k33 fun k hk => match k, hk with | 0, _ => loop_this lf33_0 loopM33_0) e33 fun ds hf hq => ?_
  obtain ⟨g, ds', rfl, h5, _, _, _, ⟨hmC, hC⟩⟩ := fitsG hf.flat
  obtain ⟨x, rfl, hx⟩ := fits1 h5
  obtain ⟨i, e, hi, h16, hok⟩ : prClu (.s g.nm :: .b g.dr :: .l g.N :: .l g.E :: .l g.C :: [x]) := hq
  have e : x = .i (i : Int) := e
  subst e
  have hi : i < g.C.length := hi
  have h16 : g.C.length ≤ 16 := h16
  have hok : okC g.C i := hok
  have hF : F 33 (.s g.nm :: .b g.dr :: .l g.N :: .l g.E :: .l g.C :: [.i (i : Int)]) = [.i (cluE g.N g.C i)] := rfl
  rw [hF]
  generalize hv : cluE g.N g.C i = res
  unfold cluE at hv
  have hnm : (g.C.getD i []).getD 0 default = .s (cS (el g.C i) 0) := row_s hC hi
  have hpre : prCluR [.i (i : Int), .i 0, .i 0, .s g.nm, .b g.dr, .l g.N, .l g.E, .l g.C, .s (cS (el g.C i) 0), (g.C.getD i []).getD 1 default] := ⟨i, _, g, _, _, 0, rfl, by omega, hi, hmC⟩
  simp (disch := omega) only [vt33, VT.ok, Nd.holds, X.outs, X.ds, X.d, Op1.ev, Op2.ev, takeD_zero, takeD_cons, List.cons_append, List.nil_append, List.getD_cons_zero, List.getD_cons_succ, D.int_i, D.bool_b, D.lst_l, ite_b, ite_or, Int.toNat_natCast, implies_true, true_and, F31, R31, F12, R12, F46, R46, F13300, R13300, dle_t, dlt_t, nameD, findD, depthD, cI, cL, Int.toNat_natCast, hnm, lpCluR, Int.toNat_zero, Nat.sub_zero]
  cases h1 : isName (cS (el g.C i) 0)
  · rw [h1] at hv
    simp only [h1, cS, List.getD_cons_zero, D.str_s, Bool.not_false, if_true]
    rw [← hv]; rfl
  · simp only [h1, if_true] at hv
    rw [if_neg (by
      show ¬ (!isName (cS (el g.C i) 0)) = true
      rw [h1]; decide)]
    refine ⟨fun _ => hpre, ?_⟩
    rcases scan_two (p := nmP g.C (cS (el g.C i) 0)) i with ⟨h2, k, _, _, _, h⟩ | ⟨h2, h⟩
    · rw [h2, Bool.or_true, if_pos rfl] at hv
      simp only [h, takeD_zero, takeD_cons, List.getD_cons_zero, List.getD_cons_succ, D.int_i, ↓reduceIte, beq_t]
      rw [← hv]
    · rw [h2, Bool.or_false] at hv
      simp (disch := omega) only [h, takeD_zero, takeD_cons, List.cons_append, List.nil_append, List.getD_cons_zero, List.getD_cons_succ, D.int_i, Bool.false_eq_true, ↓reduceIte, beq_f]
      by_cases h4 : 0 ≤ find g.N (cS (el g.C i) 0)
      · rw [if_pos (dec_t h4)] at hv
        rw [if_pos (by exact dec_t h4), ← hv]
      · rw [if_neg (dec_f h4)] at hv
        rw [if_neg (by exact dec_f h4)]
        by_cases h3 : cI (el g.C i) 1 < -1 ∨ (i : Int) ≤ cI (el g.C i) 1
        · rw [if_pos h3] at hv
          rw [if_pos (by exact dor_t h3), ← hv]
        · rw [if_neg h3] at hv
          rw [if_neg (by exact dor_f h3)]
          have hat : atC g.C i := ⟨by omega, by omega, h16, fun k hk => by
            by_cases e : k = i
            · subst e; omega
            · exact hok k (by omega)⟩
          refine ⟨fun _ => hat, ?_⟩
          by_cases h4 : 6 < depth g.C i
          · rw [if_pos h4] at hv
            rw [if_pos (by exact dec_t h4), ← hv]
          · rw [if_neg h4] at hv
            rw [if_neg (by exact dec_f h4), ← hv]

/-! ### edges -/
theorem fitsE {ds : List D} (h : FitsF [.int .i64, .int .i64, .int .i64, .int .i64, .str, .int .i64, .int .i64] ds) : ∃ (a b c d : Int) (s : ByteArray) (w l : Int), ds = [.i a, .i b, .i c, .i d, .s s, .i w, .i l] ∧ s.size ≤ maxLen := by
  match ds, h with
  | [d0, d1, d2, d3, d4, d5, d6], ⟨h0, h1, h2, h3, h4, h5, h6, _⟩ =>
    obtain ⟨a, rfl, _⟩ := wf_i64 h0
    obtain ⟨b, rfl, _⟩ := wf_i64 h1
    obtain ⟨c, rfl, _⟩ := wf_i64 h2
    obtain ⟨d, rfl, _⟩ := wf_i64 h3
    obtain ⟨s, rfl, hs⟩ := wf_str h4
    obtain ⟨w, rfl, _⟩ := wf_i64 h5
    obtain ⟨l, rfl, _⟩ := wf_i64 h6
    exact ⟨a, b, c, d, s, w, l, rfl, hs⟩
theorem m30 : Meets Try.prog 30 S30 (R 30) (F 30) := by
  refine meets_of_vt (pre := R) (Φ := F) mixed (sgAt_all (P := Try.prog) (pre := R) (Φ := F) (l := sg30) (List.forall_mem_cons.2 ⟨Meets.at (pre := R) (Φ := F) m49, (fun _ h => nomatch h)⟩)) Try.func30 b30 n30 (loops_n 0 k30 fun k hk => by omega) e30 fun ds hf hq => ?_
  obtain ⟨g, ds', rfl, h5, _⟩ := fitsG hf.flat
  obtain ⟨a, b, c, d, s, w, l, rfl, _⟩ := fitsE h5
  have hF : F 30 (.s g.nm :: .b g.dr :: .l g.N :: .l g.E :: .l g.C :: [.i a, .i b, .i c, .i d, .s s, .i w, .i l]) = [.i (edgeE g.N [.i a, .i b, .i c, .i d, .s s, .i w, .i l])] := rfl
  rw [hF]
  generalize hv : edgeE g.N [.i a, .i b, .i c, .i d, .s s, .i w, .i l] = res
  simp only [edgeE, cI, cS, cL, List.getD_cons_zero, List.getD_cons_succ, D.int_i, D.str_s] at hv
  generalize hA : (((el g.N a.toNat).getD 5 default).lst.length : Int) = A at hv
  generalize hB : (((el g.N b.toNat).getD 5 default).lst.length : Int) = B at hv
  have hA' : (((g.N.getD a.toNat []).getD 5 default).lst.length : Int) = A := hA
  have hB' : (((g.N.getD b.toNat []).getD 5 default).lst.length : Int) = B := hB
  by_cases h1 : 0 ≤ a ∧ a < g.N.length ∧ 0 ≤ b ∧ b < g.N.length ∧ -1 ≤ c ∧ c < A ∧ -1 ≤ d ∧ d < B
  · rw [if_pos h1] at hv
    simp (disch := omega) only [vt30, VT.ok, Nd.holds, X.outs, X.ds, X.d, Op1.ev, Op2.ev, takeD_zero, takeD_cons, List.cons_append, List.nil_append, List.getD_cons_zero, List.getD_cons_succ, D.int_i, D.bool_b, D.lst_l, D.str_s, ite_b, ite_or, imin, imax, Bool.false_eq_true, implies_true, true_and, F49, R49, ↓reduceIte, dle_t, dle_f, dlt_t, dlt_f, hA', hB', labelD, cS, Bool.not_false]
    by_cases h2 : labelE s = 0
    · rw [if_pos h2] at hv
      rw [if_neg (by exact bne_f h2)]
      by_cases h3 : 1 ≤ w ∧ w ≤ 1000 ∧ 1 ≤ l ∧ l ≤ 64
      · rw [if_pos h3] at hv
        simp (disch := omega) only [↓reduceIte, dlt_f, Bool.or_self, Bool.false_eq_true]
        rw [← hv]
      · rw [if_neg h3] at hv
        rw [if_pos (by
          simp only [Bool.or_eq_true, decide_eq_true_eq]
          omega), ← hv]
    · rw [if_neg h2] at hv
      rw [if_pos (by exact bne_t h2), ← hv]
  · rw [if_neg h1] at hv
    have hc : ((((decide (min a b < 0) || decide ((g.N.length : Int) ≤ max a b)) || decide (min c d < -1)) || decide (A ≤ c)) || decide (B ≤ d)) = true := by
      simp only [Bool.or_eq_true, decide_eq_true_eq]
      omega
    simp only [vt30, VT.ok, Nd.holds, X.outs, X.ds, X.d, Op1.ev, Op2.ev, List.cons_append, List.nil_append, List.getD_cons_zero, List.getD_cons_succ, D.int_i, D.bool_b, D.lst_l, ite_b, ite_or, imin, imax, if_true, implies_true, true_and, takeD1_0, F49, R49, hA', hB', hc]
    simp only [Bool.not_eq_true', Bool.or_eq_false_iff, decide_eq_false_iff_not, decide_eq_true_eq]
    exact ⟨fun h => by omega, fun h => by omega, fun h => by omega, fun h => by omega, by rw [hv]⟩
theorem m34 : Meets Try.prog 34 S34 (R 34) (F 34) := by
  refine meets_of_vt (pre := R) (Φ := F) mixed (sgAt_all (P := Try.prog) (pre := R) (Φ := F) (l := sg34) (List.forall_mem_cons.2 ⟨Meets.at (pre := R) (Φ := F) m56, (fun _ h => nomatch h)⟩)) Try.func34 b34 n34 (loops_n 0 k34 fun k hk => by omega) e34 fun ds hf hq => ?_
  obtain ⟨g, ds', rfl, h5, _⟩ := fitsG hf.flat
  obtain ⟨a, b, c, d, s, w, l, rfl, _⟩ := fitsE h5
  have hF : F 34 (.s g.nm :: .b g.dr :: .l g.N :: .l g.E :: .l g.C :: [.i a, .i b, .i c, .i d, .s s, .i w, .i l]) = [.i (edgeE g.N [.i a, .i b, .i c, .i d, .s s, .i w, .i l])] := rfl
  rw [hF]
  generalize hv : edgeE g.N [.i a, .i b, .i c, .i d, .s s, .i w, .i l] = res
  simp only [edgeE, cI, cS, cL, List.getD_cons_zero, List.getD_cons_succ, D.int_i, D.str_s] at hv
  generalize hA : (((el g.N a.toNat).getD 5 default).lst.length : Int) = A at hv
  generalize hB : (((el g.N b.toNat).getD 5 default).lst.length : Int) = B at hv
  have hA' : (((g.N.getD a.toNat []).getD 5 default).lst.length : Int) = A := hA
  have hB' : (((g.N.getD b.toNat []).getD 5 default).lst.length : Int) = B := hB
  by_cases h0 : 0 ≤ a ∧ a < g.N.length ∧ 0 ≤ b ∧ b < g.N.length
  · by_cases h1 : -1 ≤ c ∧ c < A ∧ -1 ≤ d ∧ d < B
    · rw [if_pos ⟨h0.1, h0.2.1, h0.2.2.1, h0.2.2.2, h1⟩] at hv
      simp (disch := omega) only [vt34, VT.ok, Nd.holds, X.outs, X.ds, X.d, Op1.ev, Op2.ev, takeD_zero, takeD_cons, List.cons_append, List.nil_append, List.getD_cons_zero, List.getD_cons_succ, D.int_i, D.bool_b, D.lst_l, D.str_s, ite_b, ite_or, Bool.false_eq_true, implies_true, true_and, F56, R56, ↓reduceIte, dle_t, dle_f, dlt_t, dlt_f, hA', hB', plainD, cS, Bool.not_false]
      by_cases h4 : 32 < (s.size : Int)
      · have h3 : labelE s = 2 := by rw [labelE, if_pos h4]
        rw [h3, if_neg (by decide)] at hv
        rw [if_pos (by exact dec_t h4), ← hv]
      · rw [if_neg (by exact dec_f h4)]
        cases h6 : plainB s
        · have h3 : labelE s = 7 := by rw [labelE, if_neg h4, h6]; rfl
          rw [h3, if_neg (by decide)] at hv
          simp only [Bool.not_false, Bool.true_or, if_true]
          rw [← hv]
        · have h3 : labelE s = 0 := by rw [labelE, if_neg h4, h6]; rfl
          rw [h3, if_pos rfl] at hv
          simp only [Bool.not_true, Bool.false_or]
          by_cases h3 : 1 ≤ w ∧ w ≤ 1000 ∧ 1 ≤ l ∧ l ≤ 64
          · rw [if_pos h3] at hv
            simp (disch := omega) only [↓reduceIte, dlt_f, Bool.or_self, Bool.false_eq_true]
            rw [← hv]
          · rw [if_neg h3] at hv
            rw [if_pos (by
              simp only [Bool.or_eq_true, decide_eq_true_eq]
              omega), ← hv]
    · rw [if_neg (by omega)] at hv
      have hc : (((decide (c < -1) || decide (A ≤ c)) || decide (d < -1)) || decide (B ≤ d)) = true := by
        simp only [Bool.or_eq_true, decide_eq_true_eq]
        omega
      simp (disch := omega) only [vt34, VT.ok, Nd.holds, X.ds, X.d, Op1.ev, Op2.ev, List.getD_cons_zero, List.getD_cons_succ, D.int_i, D.bool_b, D.lst_l, ite_b, ite_or, Bool.false_eq_true, implies_true, true_and, ↓reduceIte, dle_t, dle_f, dlt_t, dlt_f, hA', hB', hc]
      rw [hv]
  · rw [if_neg (by omega)] at hv
    have hc : (((decide (a < 0) || decide ((g.N.length : Int) ≤ a)) || decide (b < 0)) || decide ((g.N.length : Int) ≤ b)) = true := by
      simp only [Bool.or_eq_true, decide_eq_true_eq]
      omega
    simp only [vt34, VT.ok, Nd.holds, X.outs, X.ds, X.d, Op1.ev, Op2.ev, List.cons_append, List.nil_append, List.getD_cons_zero, List.getD_cons_succ, D.int_i, D.bool_b, D.lst_l, D.str_s, ite_b, ite_or, if_true, implies_true, true_and, takeD1_0, F56, R56, hc]
    rw [hv]
end Go.Proofs.Ytjdhicmkkmfcgaa.rv
