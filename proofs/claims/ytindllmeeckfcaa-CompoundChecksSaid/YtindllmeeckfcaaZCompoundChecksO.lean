/-
  Nested clusters: Check of the reference.; Nested clusters: equal lists, small graphs.; Nested clusters: the chapter's example, the first laws.
-/
import Derived.Test.YtindllmeeckfcaaZCompoundChecksN
namespace Go.Proofs.Ytindllmeeckfcaa.rv
set_option maxRecDepth 10000
open Go.RV
theorem loopM46_1 : LoopMeets Try.prog F (R L46_1.key) L46_1 lb46_1 := by
  refine loop_meets (pre := R) mixed (sgAt_all (P := Try.prog) (pre := R) (Φ := F) (l := sg46) (List.forall_mem_cons.2 ⟨Meets.at (pre := R) (Φ := F) m63, List.forall_mem_cons.2 ⟨Meets.at (pre := R) (Φ := F) m74, List.forall_mem_cons.2 ⟨Meets.at (pre := R) (Φ := F) m75, List.forall_mem_cons.2 ⟨Meets.at (pre := R) (Φ := F) m76, (fun _ h => nomatch h)⟩⟩⟩⟩)) (loops_n 0 lk46_1 fun k hk => by omega) L46_1 (fun ρ => ((ρ.getD 2 default).int - (ρ.getD 3 default).int).toNat) le46_1 fun ρ _ hq => ?_
  obtain ⟨v, M, k, j, rfl, hj, hk, hm⟩ : prO1 ρ := hq
  rw [maxLen_val] at hm
  by_cases hlt : j < k
  · simp (disch := omega) only [rt46_1, VT.ok, Nd.holds, X.outs, X.ds, X.d, Op1.ev, Op2.ev, takeD_zero, takeD_cons, List.cons_append, List.nil_append, List.getD_cons_zero, List.getD_cons_succ, D.int_i, D.bool_b, D.lst_l, Int.toNat_natCast, List.length_map, implies_true, true_and, F63, R63, ↓reduceIte, dle_t, dlt_t, w64', rowQz, encQ, fn63_eq]
    rw [show ovQ ((M.getD k z4).1, (M.getD k z4).2.1, (M.getD k z4).2.2.1, (M.getD k z4).2.2.2) ((M.getD j z4).1, (M.getD j z4).2.1, (M.getD j z4).2.2.1, (M.getD j z4).2.2.2) = ovJ M (M.getD k z4) j from ovQ_comm _ _]
    show if ovJ M (M.getD k z4) j = true then _ else _
    cases hb : ovJ M (M.getD k z4) j
    · simp only [Bool.false_eq_true, if_false]
      refine round_next ⟨⟨v, M, k, j + 1, rfl, by omega, hk, hm⟩, ?_, ?_⟩
      · show ((k : Int) - ((j + 1 : Nat) : Int)).toNat < ((k : Int) - (j : Int)).toNat
        omega
      · show lpO1 [.l (M.map encQ), v, .i (k : Int), .i ((j + 1 : Nat) : Int)] = lpO1 [.l (M.map encQ), v, .i (k : Int), .i (j : Int)]
        simp only [lpO1, map_decQ, scB, Int.toNat_natCast]
        exact scan_next hlt hb
    · simp only [if_true]
      refine round_exit (by omega) ?_
      show lpO1 [.l (M.map encQ), v, .i (k : Int), .i (j : Int)] = _
      simp only [lpO1, map_decQ, scB, Int.toNat_natCast]
      exact scan_hit hlt hb
  · have hj' : j = k := by omega
    subst hj'
    simp (disch := omega) only [rt46_1, VT.ok, X.ds, X.d, Op2.ev, List.getD_cons_zero, List.getD_cons_succ, D.int_i, D.bool_b, Bool.false_eq_true, ↓reduceIte, dlt_f]
    refine round_exit (by omega) ?_
    show lpO1 [.l (M.map encQ), v, .i (j : Int), .i (j : Int)] = _
    simp only [lpO1, map_decQ, scB, Int.toNat_natCast]
    exact scan_end
theorem lpO0_eq (M : List Bx) (v : D) (j : Nat) : lpO0 [.l (M.map encQ), v, .i (j : Int)] = scanN (ovN M) (fun j => [.i 0, .b true, .i (j : Int)]) (fun j => [.i 1, v, .i (j : Int)]) (M.length - j) j := by
  simp only [lpO0, map_decQ, List.length_map, scB, Int.toNat_natCast]
theorem loopM46_0 : LoopMeets Try.prog F (R L46_0.key) L46_0 lb46_0 := by
  refine loop_meets (pre := R) mixed (sgAt_all (P := Try.prog) (pre := R) (Φ := F) (l := sg46) (List.forall_mem_cons.2 ⟨Meets.at (pre := R) (Φ := F) m63, List.forall_mem_cons.2 ⟨Meets.at (pre := R) (Φ := F) m74, List.forall_mem_cons.2 ⟨Meets.at (pre := R) (Φ := F) m75, List.forall_mem_cons.2 ⟨Meets.at (pre := R) (Φ := F) m76, (fun _ h => nomatch h)⟩⟩⟩⟩)) (loops_n 1 lk46_0 fun k hk => match k, hk with | 0, _ => by rw [li46_0_0]; exact loop_this lf46_1 loopM46_1) L46_0 (fun ρ => (((ρ.getD 0 default).lst.length : Int) - (ρ.getD 2 default).int).toNat) le46_0 fun ρ _ hq => ?_
  obtain ⟨v, M, j, rfl, hj, hm⟩ : prZd ρ := hq
  have hm' := hm
  rw [maxLen_val] at hm
  by_cases hlt : j < M.length
  · have hl : lpO1 [.l (M.map encQ), v, .i (j : Int), .i 0] = scanN (ovJ M (M.getD j z4)) (fun j => [.i 0, .b true, .i (j : Int)]) (fun j => [.i 1, v, .i (j : Int)]) j 0 := by
      simp only [lpO1, map_decQ, Int.toNat_natCast, Int.toNat_zero, Nat.sub_zero, scB]
    simp (disch := omega) only [rt46_0, VT.ok, Nd.holds, X.outs, X.ds, X.d, Op1.ev, Op2.ev, List.cons_append, List.nil_append, List.getD_cons_zero, List.getD_cons_succ, D.int_i, D.bool_b, D.lst_l, List.length_map, F14600, R14600, ↓reduceIte, dlt_t, w64', hl]
    refine ⟨fun _ => ⟨v, M, j, 0, rfl, by omega, hlt, hm'⟩, ?_⟩
    rcases scan_any (p := ovJ M (M.getD j z4)) (hit := fun j => [D.i 0, .b true, .i (j : Int)]) (miss := fun j => [D.i 1, v, .i (j : Int)]) j with ⟨h1, k, _, _, _, h2⟩ | ⟨h1, h2⟩
    · rw [h2]
      simp only [takeD_zero, takeD_cons, List.getD_cons_zero, List.getD_cons_succ, D.int_i, if_true, show ((0 : Int) == 0) = true from rfl]
      refine round_exit (by omega) ?_
      rw [show F L46_0.key = lpO0 from rfl, lpO0_eq]
      exact scan_hit hlt h1
    · rw [h2]
      simp only [takeD_zero, takeD_cons, List.getD_cons_zero, List.getD_cons_succ, D.int_i, Bool.false_eq_true, if_false, show ((1 : Int) == 0) = false from rfl]
      refine round_next ⟨⟨v, M, j + 1, rfl, by omega, hm'⟩, ?_, ?_⟩
      · show (((M.map encQ).length : Int) - ((j + 1 : Nat) : Int)).toNat < (((M.map encQ).length : Int) - (j : Int)).toNat
        rw [List.length_map]; omega
      · show lpO0 [.l (M.map encQ), v, .i ((j + 1 : Nat) : Int)] = lpO0 [.l (M.map encQ), v, .i (j : Int)]
        rw [lpO0_eq, lpO0_eq]
        exact scan_next hlt h1
  · have hj : j = M.length := by omega
    subst hj
    simp (disch := omega) only [rt46_0, VT.ok, X.ds, X.d, Op1.ev, Op2.ev, List.getD_cons_zero, List.getD_cons_succ, D.int_i, D.bool_b, D.lst_l, List.length_map, Bool.false_eq_true, ↓reduceIte, dlt_f]
    refine round_exit (by omega) ?_
    rw [show F L46_0.key = lpO0 from rfl, lpO0_eq]
    exact scan_end
theorem loopM46_3 : LoopMeets Try.prog F (R L46_3.key) L46_3 lb46_3 := by
  refine loop_meets (pre := R) mixed (sgAt_all (P := Try.prog) (pre := R) (Φ := F) (l := sg46) (List.forall_mem_cons.2 ⟨Meets.at (pre := R) (Φ := F) m63, List.forall_mem_cons.2 ⟨Meets.at (pre := R) (Φ := F) m74, List.forall_mem_cons.2 ⟨Meets.at (pre := R) (Φ := F) m75, List.forall_mem_cons.2 ⟨Meets.at (pre := R) (Φ := F) m76, (fun _ h => nomatch h)⟩⟩⟩⟩)) (loops_n 0 lk46_3 fun k hk => by omega) L46_3 (fun ρ => (((ρ.getD 0 default).lst.length : Int) - (ρ.getD 5 default).int).toNat) le46_3 fun ρ _ hq => ?_
  obtain ⟨v, M, K, c, l, j, rfl, hj, hm, hc⟩ : prO3 ρ := hq
  by_cases hlt : j < M.length
  · simp (disch := omega) only [rt46_3, VT.ok, Nd.holds, X.outs, X.ds, X.d, Op1.ev, Op2.ev, takeD_zero, takeD_cons, List.cons_append, List.nil_append, List.getD_cons_zero, List.getD_cons_succ, D.int_i, D.bool_b, D.lst_l, ite_b, ite_and, Int.toNat_natCast, List.length_map, implies_true, true_and, F63, R63, F75, R75, ↓reduceIte, dle_t, dlt_t, w64', rowQz, encQ, hsD_eq, fn63_eq]
    show if (!l.contains j && ovQ (M.getD j z4) (K.getD c z4)) = true then _ else _
    cases hb : (!l.contains j && ovQ (M.getD j z4) (K.getD c z4))
    · simp only [Bool.false_eq_true, if_false]
      refine round_next ⟨⟨v, M, K, c, l, j + 1, rfl, by omega, hm, hc⟩, ?_, ?_⟩
      · show (((M.map encQ).length : Int) - ((j + 1 : Nat) : Int)).toNat < (((M.map encQ).length : Int) - (j : Int)).toNat
        rw [List.length_map]; omega
      · show lpO3 [.l (M.map encQ), .l (K.map encQ), v, .i (c : Int), .l (l.map encN), .i ((j + 1 : Nat) : Int)] = lpO3 [.l (M.map encQ), .l (K.map encQ), v, .i (c : Int), .l (l.map encN), .i (j : Int)]
        simp only [lpO3, map_decQ, map_decN, List.length_map, scB, Int.toNat_natCast]
        exact scan_next hlt hb
    · simp only [if_true]
      refine round_exit (by omega) ?_
      show lpO3 [.l (M.map encQ), .l (K.map encQ), v, .i (c : Int), .l (l.map encN), .i (j : Int)] = _
      simp only [lpO3, map_decQ, map_decN, List.length_map, scB, Int.toNat_natCast]
      exact scan_hit hlt hb
  · have hj' : j = M.length := by omega
    subst hj'
    simp (disch := omega) only [rt46_3, VT.ok, X.ds, X.d, Op1.ev, Op2.ev, List.getD_cons_zero, List.getD_cons_succ, D.int_i, D.bool_b, D.lst_l, List.length_map, Bool.false_eq_true, ↓reduceIte, dlt_f]
    refine round_exit (by omega) ?_
    show lpO3 [.l (M.map encQ), .l (K.map encQ), v, .i (c : Int), .l (l.map encN), .i (M.length : Int)] = _
    simp only [lpO3, map_decQ, map_decN, List.length_map, scB, Int.toNat_natCast]
    exact scan_end
theorem loopM46_4 : LoopMeets Try.prog F (R L46_4.key) L46_4 lb46_4 := by
  refine loop_meets (pre := R) mixed (sgAt_all (P := Try.prog) (pre := R) (Φ := F) (l := sg46) (List.forall_mem_cons.2 ⟨Meets.at (pre := R) (Φ := F) m63, List.forall_mem_cons.2 ⟨Meets.at (pre := R) (Φ := F) m74, List.forall_mem_cons.2 ⟨Meets.at (pre := R) (Φ := F) m75, List.forall_mem_cons.2 ⟨Meets.at (pre := R) (Φ := F) m76, (fun _ h => nomatch h)⟩⟩⟩⟩)) (loops_n 0 lk46_4 fun k hk => by omega) L46_4 (fun ρ => ((ρ.getD 2 default).int - (ρ.getD 3 default).int).toNat) le46_4 fun ρ _ hq => ?_
  obtain ⟨v, K, c, g, j, rfl, hj, hc, hK, hv⟩ : prO4 ρ := hq
  obtain ⟨_, v16⟩ := valid_len hv
  obtain ⟨_, _, v3, _⟩ := valid_okV hv
  by_cases hlt : j < c
  · have h1 : innP [.s g.nm, .b g.dr, .l g.N, .l g.E, .l g.C, .i (c : Int), .i (j : Int)] := ⟨by show -1 ≤ (c : Int); omega, by show (c : Int) < g.C.length; omega, v16, v3.mono (by show ((c : Int) + 1).toNat ≤ _; omega)⟩
    have h2 : innP [.s g.nm, .b g.dr, .l g.N, .l g.E, .l g.C, .i (j : Int), .i (c : Int)] := ⟨by show -1 ≤ (j : Int); omega, by show (j : Int) < g.C.length; omega, v16, v3.mono (by show ((j : Int) + 1).toNat ≤ _; omega)⟩
    simp (disch := omega) only [rt46_4, VT.ok, Nd.holds, X.outs, X.ds, X.d, Op1.ev, Op2.ev, takeD_zero, takeD_cons, List.cons_append, List.nil_append, List.getD_cons_zero, List.getD_cons_succ, D.int_i, D.bool_b, D.lst_l, ite_b, ite_and, Int.toNat_natCast, List.length_map, implies_true, true_and, F63, R63, F76, R76, ↓reduceIte, dle_t, dlt_t, w64', rowQz, encQ, innD_eq, fn63_eq]
    refine ⟨fun _ => h1, fun _ => h2, ?_⟩
    rw [show ovQ ((K.getD c z4).1, (K.getD c z4).2.1, (K.getD c z4).2.2.1, (K.getD c z4).2.2.2) ((K.getD j z4).1, (K.getD j z4).2.1, (K.getD j z4).2.2.1, (K.getD j z4).2.2.2) = ovQ (K.getD j z4) (K.getD c z4) from ovQ_comm _ _]
    show if mixC g.C K c j = true then _ else _
    cases hb : mixC g.C K c j
    · simp only [Bool.false_eq_true, if_false]
      refine round_next ⟨⟨v, K, c, g, j + 1, rfl, by omega, hc, hK, hv⟩, ?_, ?_⟩
      · show ((c : Int) - ((j + 1 : Nat) : Int)).toNat < ((c : Int) - (j : Int)).toNat
        omega
      · show lpO4 [.l (K.map encQ), v, .i (c : Int), .i ((j + 1 : Nat) : Int), .s g.nm, .b g.dr, .l g.N, .l g.E, .l g.C] = lpO4 [.l (K.map encQ), v, .i (c : Int), .i (j : Int), .s g.nm, .b g.dr, .l g.N, .l g.E, .l g.C]
        simp only [lpO4, map_decQ, scB, Int.toNat_natCast]
        exact scan_next hlt hb
    · simp only [if_true]
      refine round_exit (by omega) ?_
      show lpO4 [.l (K.map encQ), v, .i (c : Int), .i (j : Int), .s g.nm, .b g.dr, .l g.N, .l g.E, .l g.C] = _
      simp only [lpO4, map_decQ, scB, Int.toNat_natCast]
      exact scan_hit hlt hb
  · have hj' : j = c := by omega
    subst hj'
    simp (disch := omega) only [rt46_4, VT.ok, X.ds, X.d, Op2.ev, List.getD_cons_zero, List.getD_cons_succ, D.int_i, D.bool_b, Bool.false_eq_true, ↓reduceIte, dlt_f]
    refine round_exit (by omega) ?_
    show lpO4 [.l (K.map encQ), v, .i (j : Int), .i (j : Int), .s g.nm, .b g.dr, .l g.N, .l g.E, .l g.C] = _
    simp only [lpO4, map_decQ, scB, Int.toNat_natCast]
    exact scan_end
theorem lpO3_eq (v : D) (M K : List Bx) (c : Nat) (l : List Nat) : lpO3 [.l (M.map encQ), .l (K.map encQ), v, .i (c : Int), .l (l.map encN), .i 0] = scanN (fun w => !l.contains w && ovQ (M.getD w z4) (K.getD c z4)) (fun j => [.i 0, .b true, .i (j : Int)]) (fun j => [.i 1, v, .i (j : Int)]) M.length 0 := by
  simp only [lpO3, map_decQ, map_decN, List.length_map, scB, Int.toNat_zero, Nat.sub_zero, Int.toNat_natCast]
theorem lpO4_eq (v : D) (K : List Bx) (c : Nat) (g : Gd) : lpO4 [.l (K.map encQ), v, .i (c : Int), .i 0, .s g.nm, .b g.dr, .l g.N, .l g.E, .l g.C] = scanN (mixC g.C K c) (fun j => [.i 0, .b true, .i (j : Int)]) (fun j => [.i 1, v, .i (j : Int)]) c 0 := by
  simp only [lpO4, map_decQ, scB, Int.toNat_zero, Nat.sub_zero, Int.toNat_natCast]
theorem lpO2_eq (v : D) (M K : List Bx) (g : Gd) (j : Nat) : lpO2 [.l (M.map encQ), .l (K.map encQ), v, .i (j : Int), .s g.nm, .b g.dr, .l g.N, .l g.E, .l g.C] = scanN (mixAny g.N g.C M K) (fun j => [.i 0, .b true, .i (j : Int)]) (fun j => [.i 1, v, .i (j : Int)]) (K.length - j) j := by
  simp only [lpO2, map_decQ, List.length_map, scB, Int.toNat_natCast]
theorem loopM46_2 : LoopMeets Try.prog F (R L46_2.key) L46_2 lb46_2 := by
  refine loop_meets (pre := R) mixed (sgAt_all (P := Try.prog) (pre := R) (Φ := F) (l := sg46) (List.forall_mem_cons.2 ⟨Meets.at (pre := R) (Φ := F) m63, List.forall_mem_cons.2 ⟨Meets.at (pre := R) (Φ := F) m74, List.forall_mem_cons.2 ⟨Meets.at (pre := R) (Φ := F) m75, List.forall_mem_cons.2 ⟨Meets.at (pre := R) (Φ := F) m76, (fun _ h => nomatch h)⟩⟩⟩⟩)) (loops_n 2 lk46_2 fun k hk => match k, hk with | 0, _ => by rw [li46_2_0]; exact loop_this lf46_3 loopM46_3 | 1, _ => by rw [li46_2_1]; exact loop_this lf46_4 loopM46_4) L46_2 (fun ρ => (((ρ.getD 1 default).lst.length : Int) - (ρ.getD 3 default).int).toNat) le46_2 fun ρ _ hq => ?_
  obtain ⟨v, M, K, g, j, rfl, hj, hv, hM, hK⟩ : prO2 ρ := hq
  obtain ⟨v1, v2⟩ := valid_len hv
  by_cases hlt : j < K.length
  · have hhit : mixAny g.N g.C M K j = true → RoundOk F (R L46_2.key) (fun ρ => (((ρ.getD 1 default).lst.length : Int) - (ρ.getD 3 default).int).toNat) L46_2 [.l (M.map encQ), .l (K.map encQ), v, .i (j : Int), .s g.nm, .b g.dr, .l g.N, .l g.E, .l g.C] [.i 0, .b true, .i (j : Int)] := fun h => by
      refine round_exit (by omega) ?_
      rw [show F L46_2.key = lpO2 from rfl, lpO2_eq]
      exact scan_hit hlt h
    have hmiss : mixAny g.N g.C M K j = false → RoundOk F (R L46_2.key) (fun ρ => (((ρ.getD 1 default).lst.length : Int) - (ρ.getD 3 default).int).toNat) L46_2 [.l (M.map encQ), .l (K.map encQ), v, .i (j : Int), .s g.nm, .b g.dr, .l g.N, .l g.E, .l g.C] [.i (-1), v, .i ((j + 1 : Nat) : Int)] := fun h => by
      refine round_next ⟨⟨v, M, K, g, j + 1, rfl, by omega, hv, hM, hK⟩, ?_, ?_⟩
      · show (((K.map encQ).length : Int) - ((j + 1 : Nat) : Int)).toNat < (((K.map encQ).length : Int) - (j : Int)).toNat
        rw [List.length_map]; omega
      · show lpO2 [.l (M.map encQ), .l (K.map encQ), v, .i ((j + 1 : Nat) : Int), .s g.nm, .b g.dr, .l g.N, .l g.E, .l g.C] = lpO2 [.l (M.map encQ), .l (K.map encQ), v, .i (j : Int), .s g.nm, .b g.dr, .l g.N, .l g.E, .l g.C]
        rw [lpO2_eq, lpO2_eq]
        exact scan_next hlt h
    have hmem := memD_eq (g := g) hv (c := j) (by omega)
    have hp1 : ∀ v : D, prO3 [.l (M.map encQ), .l (K.map encQ), v, .i (j : Int), .l ((memL g j).map encN), .i 0] := fun v => ⟨v, M, K, j, memL g j, 0, rfl, by omega, by omega, hlt⟩
    have hp2 : ∀ v : D, prO4 [.l (K.map encQ), v, .i (j : Int), .i 0, .s g.nm, .b g.dr, .l g.N, .l g.E, .l g.C] := fun v => ⟨v, K, j, g, 0, rfl, by omega, hlt, hK, hv⟩
    simp (disch := omega) only [rt46_2, VT.ok, Nd.holds, X.outs, X.ds, X.d, Op1.ev, Op2.ev, takeD_zero, takeD_cons, List.cons_append, List.nil_append, List.getD_cons_zero, List.getD_cons_succ, D.int_i, D.bool_b, D.lst_l, List.length_map, implies_true, true_and, F74, R74, F14602, R14602, F14603, R14603, ↓reduceIte, dlt_t, w64', hmem, lpO3_eq]
    refine ⟨fun _ => hp1 _, ?_⟩
    rcases scan_any (p := fun w => !(memL g j).contains w && ovQ (M.getD w z4) (K.getD j z4)) (hit := fun j => [D.i 0, .b true, .i (j : Int)]) (miss := fun j => [D.i 1, v, .i (j : Int)]) M.length with ⟨h1, k, _, _, _, h2⟩ | ⟨h1, h2⟩
    · rw [mixN_mem hM] at h1
      rw [h2]
      simp only [takeD_zero, takeD_cons, List.cons_append, List.nil_append, List.getD_cons_zero, List.getD_cons_succ, D.int_i, if_true, show ((0 : Int) == 0) = true from rfl]
      exact hhit (by rw [mixAny, h1]; rfl)
    · rw [mixN_mem hM] at h1
      rw [h2]
      simp only [takeD_zero, takeD_cons, List.cons_append, List.nil_append, List.getD_cons_zero, List.getD_cons_succ, D.int_i, Bool.false_eq_true, if_false, show ((1 : Int) == 0) = false from rfl, lpO4_eq]
      refine ⟨fun _ => hp2 _, ?_⟩
      rcases scan_any (p := mixC g.C K j) (hit := fun j => [D.i 0, .b true, .i (j : Int)]) (miss := fun j => [D.i 1, v, .i (j : Int)]) j with ⟨h3, k, _, _, _, h4⟩ | ⟨h3, h4⟩
      · rw [h4]
        simp only [takeD_zero, takeD_cons, List.getD_cons_zero, List.getD_cons_succ, D.int_i, if_true, show ((0 : Int) == 0) = true from rfl]
        exact hhit (by rw [mixAny, h3, Bool.or_true])
      · rw [h4]
        simp only [takeD_zero, takeD_cons, List.getD_cons_zero, List.getD_cons_succ, D.int_i, Bool.false_eq_true, if_false, show ((1 : Int) == 0) = false from rfl]
        exact hmiss (by rw [mixAny, h1, h3]; rfl)
  · have hj : j = K.length := by omega
    subst hj
    simp (disch := omega) only [rt46_2, VT.ok, X.ds, X.d, Op1.ev, Op2.ev, List.getD_cons_zero, List.getD_cons_succ, D.int_i, D.bool_b, D.lst_l, List.length_map, Bool.false_eq_true, ↓reduceIte, dlt_f]
    refine round_exit (by omega) ?_
    rw [show F L46_2.key = lpO2 from rfl, lpO2_eq]
    exact scan_end
theorem overD_eq (g : Gd) (M K : List Bx) : overD [.s g.nm, .b g.dr, .l g.N, .l g.E, .l g.C, .l (M.map encQ), .l (K.map encQ)] = [.b (overB g M K)] := by
  show [D.b (overB g ((M.map encQ).map decQ) ((K.map encQ).map decQ))] = _
  rw [map_decQ, map_decQ]
theorem m46 : Meets Try.prog 46 S46 (R 46) (F 46) := by
  refine meets_of_vt (pre := R) (Φ := F) mixed (sgAt_all (P := Try.prog) (pre := R) (Φ := F) (l := sg46) (List.forall_mem_cons.2 ⟨Meets.at (pre := R) (Φ := F) m63, List.forall_mem_cons.2 ⟨Meets.at (pre := R) (Φ := F) m74, List.forall_mem_cons.2 ⟨Meets.at (pre := R) (Φ := F) m75, List.forall_mem_cons.2 ⟨Meets.at (pre := R) (Φ := F) m76, (fun _ h => nomatch h)⟩⟩⟩⟩)) Try.func46 b46 n46 (loops_n 5 k46 fun k hk => match k, hk with | 0, _ => loop_this lf46_0 loopM46_0 | 1, _ => loop_this lf46_1 loopM46_1 | 2, _ => loop_this lf46_2 loopM46_2 | 3, _ => loop_this lf46_3 loopM46_3 | 4, _ => loop_this lf46_4 loopM46_4) e46 fun ds _ hq => ?_
  obtain ⟨g, M, K, rfl, hv, hM, hK⟩ : apP ds := hq
  obtain ⟨v1, v2⟩ := valid_len hv
  have e1 := lpO0_eq M (.b false) 0
  have e2 := lpO2_eq (.b false) M K g 0
  have p1 : prZd [.l (M.map encQ), .b false, .i 0] := ⟨_, M, 0, rfl, by omega, by rw [maxLen_val]; omega⟩
  have p2 : prO2 [.l (M.map encQ), .l (K.map encQ), .b false, .i 0, .s g.nm, .b g.dr, .l g.N, .l g.E, .l g.C] := ⟨_, M, K, g, 0, rfl, by omega, hv, hM, hK⟩
  simp only [Int.natCast_zero, Nat.sub_zero] at e1 e2
  simp only [vt46, VT.ok, Nd.holds, X.outs, X.ds, X.d, Op2.ev, List.cons_append, List.nil_append, List.getD_cons_zero, List.getD_cons_succ, D.int_i, D.bool_b, F14601, R14601, F14604, R14604, F46, e1, overD_eq]
  refine ⟨fun _ => p1, ?_⟩
  rcases scan_any (p := ovN M) (hit := fun j => [D.i 0, .b true, .i (j : Int)]) (miss := fun j => [D.i 1, .b false, .i (j : Int)]) M.length with ⟨k1, j, _, _, _, k2⟩ | ⟨k1, k2⟩
  · rw [k2, overB, k1]; rfl
  · rw [k2]
    simp only [takeD_zero, takeD_cons, List.cons_append, List.nil_append, List.getD_cons_zero, List.getD_cons_succ, D.int_i, Bool.false_eq_true, if_false, show ((1 : Int) == 0) = false from rfl, e2]
    refine ⟨fun _ => p2, ?_⟩
    rcases scan_any (p := mixAny g.N g.C M K) (hit := fun j => [D.i 0, .b true, .i (j : Int)]) (miss := fun j => [D.i 1, .b false, .i (j : Int)]) K.length with ⟨k3, j, _, _, _, k4⟩ | ⟨k3, k4⟩
    · rw [k4, overB, k1, k3]; rfl
    · rw [k4, overB, k1, k3]; rfl
theorem loopM16_0 : LoopMeets Try.prog F (R L16_0.key) L16_0 lb16_0 := by
  refine loop_meets (pre := R) mixed (sgAt_all (P := Try.prog) (pre := R) (Φ := F) (l := sg16) (List.forall_mem_cons.2 ⟨Meets.at (pre := R) (Φ := F) m42, List.forall_mem_cons.2 ⟨Meets.at (pre := R) (Φ := F) m43, List.forall_mem_cons.2 ⟨Meets.at (pre := R) (Φ := F) m44, List.forall_mem_cons.2 ⟨Meets.at (pre := R) (Φ := F) m45, List.forall_mem_cons.2 ⟨Meets.at (pre := R) (Φ := F) m46, (fun _ h => nomatch h)⟩⟩⟩⟩⟩)) (loops_n 0 lk16_0 fun k hk => by omega) L16_0 (fun ρ => (((ρ.getD 0 default).lst.length : Int) - (ρ.getD 2 default).int).toNat) le16_0 fun ρ _ hq => ?_
  obtain ⟨v, M, g, j, rfl, hj, hN, h64, hs⟩ : prT0 ρ := hq
  by_cases hlt : j < M.length
  · have hq := ext_i64 (hs _ (getD_mem z4 hlt))
    simp (disch := omega) only [rt16_0, VT.ok, Nd.holds, X.ds, X.d, Op1.ev, Op2.ev, List.getD_cons_zero, List.getD_cons_succ, D.int_i, D.bool_b, D.lst_l, ite_b, ite_or, Int.toNat_natCast, List.length_map, implies_true, true_and, ↓reduceIte, dle_t, dlt_t, w64', rowQz, encQ, hq.1, hq.2]
    show if badS g.N M j = true then _ else _
    cases hb : badS g.N M j
    · simp only [Bool.false_eq_true, if_false]
      refine round_next ⟨⟨v, M, g, j + 1, rfl, by omega, hN, h64, hs⟩, ?_, ?_⟩
      · show (((M.map encQ).length : Int) - ((j + 1 : Nat) : Int)).toNat < (((M.map encQ).length : Int) - (j : Int)).toNat
        rw [List.length_map]; omega
      · show lpT0 [.l (M.map encQ), v, .i ((j + 1 : Nat) : Int), .s g.nm, .b g.dr, .l g.N, .l g.E, .l g.C] = lpT0 [.l (M.map encQ), v, .i (j : Int), .s g.nm, .b g.dr, .l g.N, .l g.E, .l g.C]
        simp only [lpT0, map_decQ, List.length_map, scB, Int.toNat_natCast]
        exact scan_next hlt hb
    · simp only [if_true]
      refine round_exit (by omega) ?_
      show lpT0 [.l (M.map encQ), v, .i (j : Int), .s g.nm, .b g.dr, .l g.N, .l g.E, .l g.C] = _
      simp only [lpT0, map_decQ, List.length_map, scB, Int.toNat_natCast]
      exact scan_hit hlt hb
  · have hj' : j = M.length := by omega
    subst hj'
    simp (disch := omega) only [rt16_0, VT.ok, X.ds, X.d, Op1.ev, Op2.ev, List.getD_cons_zero, List.getD_cons_succ, D.int_i, D.bool_b, D.lst_l, List.length_map, Bool.false_eq_true, ↓reduceIte, dlt_f]
    refine round_exit (by omega) ?_
    show lpT0 [.l (M.map encQ), v, .i (M.length : Int), .s g.nm, .b g.dr, .l g.N, .l g.E, .l g.C] = _
    simp only [lpT0, map_decQ, List.length_map, scB, Int.toNat_natCast]
    exact scan_end
theorem loopM16_1 : LoopMeets Try.prog F (R L16_1.key) L16_1 lb16_1 := by
  refine loop_meets (pre := R) mixed (sgAt_all (P := Try.prog) (pre := R) (Φ := F) (l := sg16) (List.forall_mem_cons.2 ⟨Meets.at (pre := R) (Φ := F) m42, List.forall_mem_cons.2 ⟨Meets.at (pre := R) (Φ := F) m43, List.forall_mem_cons.2 ⟨Meets.at (pre := R) (Φ := F) m44, List.forall_mem_cons.2 ⟨Meets.at (pre := R) (Φ := F) m45, List.forall_mem_cons.2 ⟨Meets.at (pre := R) (Φ := F) m46, (fun _ h => nomatch h)⟩⟩⟩⟩⟩)) (loops_n 0 lk16_1 fun k hk => by omega) L16_1 (fun ρ => (((ρ.getD 0 default).lst.length : Int) - (ρ.getD 3 default).int).toNat) le16_1 fun ρ _ hq => ?_
  obtain ⟨v, M, K, g, o, j, rfl, hj, h64, hM, hN, hm1, hm2⟩ : prT1 ρ := hq
  by_cases hlt : j < g.N.length
  · have hpre : okIrP [.i (M.getD j z4).1, .i (M.getD j z4).2.1, .i (M.getD j z4).2.2.1, .i (M.getD j z4).2.2.2, .l (K.map encQ), (g.N.getD j []).getD 4 default, .i o.m] := ⟨_, _, K, o.m, rfl, (hN j hlt).2, hm1, hm2⟩
    simp (disch := omega) only [rt16_1, VT.ok, Nd.holds, X.outs, X.ds, X.d, Op1.ev, Op2.ev, takeD_zero, takeD_cons, List.cons_append, List.nil_append, List.getD_cons_zero, List.getD_cons_succ, D.int_i, D.bool_b, D.lst_l, Int.toNat_natCast, List.length_map, implies_true, true_and, F45, R45, ↓reduceIte, dle_t, dlt_t, w64', rowQz, encQ, okIrD_eq]
    refine ⟨fun _ => hpre, ?_⟩
    show if outN g.N M K o.m j = true then _ else _
    cases hb : outN g.N M K o.m j
    · simp only [Bool.false_eq_true, if_false]
      refine round_next ⟨⟨v, M, K, g, o, j + 1, rfl, by omega, h64, hM, hN, hm1, hm2⟩, ?_, ?_⟩
      · show (((M.map encQ).length : Int) - ((j + 1 : Nat) : Int)).toNat < (((M.map encQ).length : Int) - (j : Int)).toNat
        rw [List.length_map]; omega
      · show lpT1 [.l (M.map encQ), .l (K.map encQ), v, .i ((j + 1 : Nat) : Int), .s g.nm, .b g.dr, .l g.N, .l g.E, .l g.C, .i o.md, .i o.ns, .i o.rs, .i o.m, .i o.rd] = lpT1 [.l (M.map encQ), .l (K.map encQ), v, .i (j : Int), .s g.nm, .b g.dr, .l g.N, .l g.E, .l g.C, .i o.md, .i o.ns, .i o.rs, .i o.m, .i o.rd]
        simp only [lpT1, map_decQ, scB, Int.toNat_natCast]
        exact scan_next hlt hb
    · simp only [if_true]
      refine round_exit (by omega) ?_
      show lpT1 [.l (M.map encQ), .l (K.map encQ), v, .i (j : Int), .s g.nm, .b g.dr, .l g.N, .l g.E, .l g.C, .i o.md, .i o.ns, .i o.rs, .i o.m, .i o.rd] = _
      simp only [lpT1, map_decQ, scB, Int.toNat_natCast]
      exact scan_hit hlt hb
  · have hj' : j = g.N.length := by omega
    subst hj'
    simp (disch := omega) only [rt16_1, VT.ok, X.ds, X.d, Op1.ev, Op2.ev, List.getD_cons_zero, List.getD_cons_succ, D.int_i, D.bool_b, D.lst_l, List.length_map, Bool.false_eq_true, ↓reduceIte, dlt_f]
    refine round_exit (by omega) ?_
    show lpT1 [.l (M.map encQ), .l (K.map encQ), v, .i (g.N.length : Int), .s g.nm, .b g.dr, .l g.N, .l g.E, .l g.C, .i o.md, .i o.ns, .i o.rs, .i o.m, .i o.rd] = _
    simp only [lpT1, map_decQ, scB, Int.toNat_natCast]
    exact scan_end
theorem loopM16_2 : LoopMeets Try.prog F (R L16_2.key) L16_2 lb16_2 := by
  refine loop_meets (pre := R) mixed (sgAt_all (P := Try.prog) (pre := R) (Φ := F) (l := sg16) (List.forall_mem_cons.2 ⟨Meets.at (pre := R) (Φ := F) m42, List.forall_mem_cons.2 ⟨Meets.at (pre := R) (Φ := F) m43, List.forall_mem_cons.2 ⟨Meets.at (pre := R) (Φ := F) m44, List.forall_mem_cons.2 ⟨Meets.at (pre := R) (Φ := F) m45, List.forall_mem_cons.2 ⟨Meets.at (pre := R) (Φ := F) m46, (fun _ h => nomatch h)⟩⟩⟩⟩⟩)) (loops_n 0 lk16_2 fun k hk => by omega) L16_2 (fun ρ => (((ρ.getD 0 default).lst.length : Int) - (ρ.getD 2 default).int).toNat) le16_2 fun ρ _ hq => ?_
  obtain ⟨v, K, g, o, j, rfl, hj, h16, hK, hC, hm1, hm2⟩ : prT2 ρ := hq
  by_cases hlt : j < g.C.length
  · have hpre : okIrP [.i (K.getD j z4).1, .i (K.getD j z4).2.1, .i (K.getD j z4).2.2.1, .i (K.getD j z4).2.2.2, .l (K.map encQ), (g.C.getD j []).getD 1 default, .i o.m] := ⟨_, _, K, o.m, rfl, by rw [hK]; exact (hC j hlt).2, hm1, hm2⟩
    simp (disch := omega) only [rt16_2, VT.ok, Nd.holds, X.outs, X.ds, X.d, Op1.ev, Op2.ev, takeD_zero, takeD_cons, List.cons_append, List.nil_append, List.getD_cons_zero, List.getD_cons_succ, D.int_i, D.bool_b, D.lst_l, Int.toNat_natCast, List.length_map, implies_true, true_and, F45, R45, ↓reduceIte, dle_t, dlt_t, w64', rowQz, encQ, okIrD_eq]
    refine ⟨fun _ => hpre, ?_⟩
    show if outC g.C K o.m j = true then _ else _
    cases hb : outC g.C K o.m j
    · simp only [Bool.false_eq_true, if_false]
      refine round_next ⟨⟨v, K, g, o, j + 1, rfl, by omega, h16, hK, hC, hm1, hm2⟩, ?_, ?_⟩
      · show (((K.map encQ).length : Int) - ((j + 1 : Nat) : Int)).toNat < (((K.map encQ).length : Int) - (j : Int)).toNat
        rw [List.length_map]; omega
      · show lpT2 [.l (K.map encQ), v, .i ((j + 1 : Nat) : Int), .s g.nm, .b g.dr, .l g.N, .l g.E, .l g.C, .i o.md, .i o.ns, .i o.rs, .i o.m, .i o.rd] = lpT2 [.l (K.map encQ), v, .i (j : Int), .s g.nm, .b g.dr, .l g.N, .l g.E, .l g.C, .i o.md, .i o.ns, .i o.rs, .i o.m, .i o.rd]
        simp only [lpT2, map_decQ, scB, Int.toNat_natCast]
        exact scan_next hlt hb
    · simp only [if_true]
      refine round_exit (by omega) ?_
      show lpT2 [.l (K.map encQ), v, .i (j : Int), .s g.nm, .b g.dr, .l g.N, .l g.E, .l g.C, .i o.md, .i o.ns, .i o.rs, .i o.m, .i o.rd] = _
      simp only [lpT2, map_decQ, scB, Int.toNat_natCast]
      exact scan_hit hlt hb
  · have hj' : j = g.C.length := by omega
    subst hj'
    simp (disch := omega) only [rt16_2, VT.ok, X.ds, X.d, Op1.ev, Op2.ev, List.getD_cons_zero, List.getD_cons_succ, D.int_i, D.bool_b, D.lst_l, List.length_map, Bool.false_eq_true, ↓reduceIte, dlt_f]
    refine round_exit (by omega) ?_
    show lpT2 [.l (K.map encQ), v, .i (g.C.length : Int), .s g.nm, .b g.dr, .l g.N, .l g.E, .l g.C, .i o.md, .i o.ns, .i o.rs, .i o.m, .i o.rd] = _
    simp only [lpT2, map_decQ, scB, Int.toNat_natCast]
    exact scan_end
theorem lpT0_eq (M : List Bx) (g : Gd) : lpT0 [.l (M.map encQ), .i 0, .i 0, .s g.nm, .b g.dr, .l g.N, .l g.E, .l g.C] = scanN (badS g.N M) (fun j => [.i 0, .i 13, .i (j : Int)]) (fun j => [.i 1, .i 0, .i (j : Int)]) M.length 0 := by
  simp only [lpT0, map_decQ, List.length_map, scB, Int.toNat_zero, Nat.sub_zero]
theorem lpT1_eq (M K : List Bx) (g : Gd) (o : Od) : lpT1 [.l (M.map encQ), .l (K.map encQ), .i 0, .i 0, .s g.nm, .b g.dr, .l g.N, .l g.E, .l g.C, .i o.md, .i o.ns, .i o.rs, .i o.m, .i o.rd] = scanN (outN g.N M K o.m) (fun j => [.i 0, .i 3, .i (j : Int)]) (fun j => [.i 1, .i 0, .i (j : Int)]) g.N.length 0 := by
  simp only [lpT1, map_decQ, scB, Int.toNat_zero, Nat.sub_zero]
theorem lpT2_eq (K : List Bx) (g : Gd) (o : Od) : lpT2 [.l (K.map encQ), .i 0, .i 0, .s g.nm, .b g.dr, .l g.N, .l g.E, .l g.C, .i o.md, .i o.ns, .i o.rs, .i o.m, .i o.rd] = scanN (outC g.C K o.m) (fun j => [.i 0, .i 3, .i (j : Int)]) (fun j => [.i 1, .i 0, .i (j : Int)]) g.C.length 0 := by
  simp only [lpT2, map_decQ, scB, Int.toNat_zero, Nat.sub_zero]
theorem m16 : Meets Try.prog 16 S16 (R 16) (F 16) := by
  refine meets_of_vt (pre := R) (Φ := F) mixed (sgAt_all (P := Try.prog) (pre := R) (Φ := F) (l := sg16) (List.forall_mem_cons.2 ⟨Meets.at (pre := R) (Φ := F) m42, List.forall_mem_cons.2 ⟨Meets.at (pre := R) (Φ := F) m43, List.forall_mem_cons.2 ⟨Meets.at (pre := R) (Φ := F) m44, List.forall_mem_cons.2 ⟨Meets.at (pre := R) (Φ := F) m45, List.forall_mem_cons.2 ⟨Meets.at (pre := R) (Φ := F) m46, (fun _ h => nomatch h)⟩⟩⟩⟩⟩)) Try.func16 b16 n16 (loops_n 3 k16 fun k hk => match k, hk with | 0, _ => loop_this lf16_0 loopM16_0 | 1, _ => loop_this lf16_1 loopM16_1 | 2, _ => loop_this lf16_2 loopM16_2) e16 fun ds hf _ => ?_
  obtain ⟨g, o, M, ds', rfl, h0, hm, _⟩ := fitsGO hf.flat
  obtain ⟨x, rfl, hx⟩ := fits1 h0
  obtain ⟨K, rfl, hk, _⟩ := slQ hx
  have hv : validD [.s g.nm, .b g.dr, .l g.N, .l g.E, .l g.C] = [.i (validE g)] := rfl
  have ho := fn43_eq o.md o.ns o.rs o.m o.rd
  simp only [vt16, VT.ok, Nd.holds, X.outs, X.ds, X.d, Op1.ev, Op2.ev, takeD_zero, takeD_cons, List.cons_append, List.nil_append, List.getD_cons_zero, List.getD_cons_succ, D.int_i, D.bool_b, D.lst_l, ite_b, ite_or, implies_true, true_and, F42, R42, F43, R43, F11600, R11600, F11601, R11601, F11602, R11602, F44, R44, F46, R46, F16, hv, ho, chD_eq, zdD_eq, lenB]
  by_cases h1 : validE g = 0
  · obtain ⟨v1, v2⟩ := valid_len h1
    obtain ⟨_, _, v3, v4⟩ := valid_okV h1
    have hb : (!(validE g == 0)) = false := by simp [h1]
    simp only [hb, Bool.false_eq_true, if_false]
    by_cases h2 : o.ok = true
    · have h2' := Od.ok_iff.1 h2
      simp only [show (Od.ok ⟨o.md, o.ns, o.rs, o.m, o.rd⟩) = true from h2, Bool.not_true, Bool.false_eq_true, if_false]
      by_cases h3 : ((!(M.length == g.N.length) || !(K.length == g.C.length)) || (badL M || badL K)) = true
      · have h3' : (!(!badL M && (M.length == g.N.length)) || !(!badL K && (K.length == g.C.length))) = true := by
          revert h3
          cases badL M <;> cases badL K <;> cases (M.length == g.N.length) <;> cases (K.length == g.C.length) <;> decide
        simp only [h3', if_true]
        rw [chkE_len h1 h2 h3]
      · have h3f := Bool.eq_false_iff.2 h3
        simp only [Bool.or_eq_false_iff, Bool.not_eq_false'] at h3f
        obtain ⟨⟨a1, a2⟩, a3, a4⟩ := h3f
        have hM : M.length = g.N.length := by simpa using a1
        have hK : K.length = g.C.length := by simpa using a2
        have hE : chkE g o M K = if anyN (badS g.N M) M.length = true then 13 else if withinB g o.m M K = true then (if overB g M K = true then 14 else 0) else 3 := by
          rw [chkE, if_pos h1, if_pos h2, if_neg h3]
        have p1 : prT0 [.l (M.map encQ), .i 0, .i 0, .s g.nm, .b g.dr, .l g.N, .l g.E, .l g.C] := ⟨.i 0, M, g, 0, rfl, by omega, by omega, by omega, fun q hq => smQ_of (badL_ok a3 q hq)⟩
        have p2 : prT1 [.l (M.map encQ), .l (K.map encQ), .i 0, .i 0, .s g.nm, .b g.dr, .l g.N, .l g.E, .l g.C, .i o.md, .i o.ns, .i o.rs, .i o.m, .i o.rd] := ⟨.i 0, M, K, g, o, 0, rfl, by omega, by omega, by omega, fun v hv => by have := v4 v hv; rw [hK]; exact this, by omega, by omega⟩
        have p3 : prT2 [.l (K.map encQ), .i 0, .i 0, .s g.nm, .b g.dr, .l g.N, .l g.E, .l g.C, .i o.md, .i o.ns, .i o.rs, .i o.m, .i o.rd] := ⟨.i 0, K, g, o, 0, rfl, by omega, by omega, by omega, fun c hc => ⟨(v3 c hc).1, Int.lt_trans (v3 c hc).2 (by omega)⟩, by omega, by omega⟩
        have p4 : apP [.s g.nm, .b g.dr, .l g.N, .l g.E, .l g.C, .l (M.map encQ), .l (K.map encQ)] := ⟨g, M, K, rfl, h1, hM, hK⟩
        simp only [a1, a2, a3, a4, Bool.not_false, Bool.not_true, Bool.and_self, Bool.or_self, Bool.false_eq_true, if_false, lpT0_eq]
        refine ⟨fun _ => p1, ?_⟩
        rw [hE]
        rcases scan_any (p := badS g.N M) (hit := fun j => [D.i 0, .i 13, .i (j : Int)]) (miss := fun j => [D.i 1, .i 0, .i (j : Int)]) M.length with ⟨k1, j, _, _, _, k2⟩ | ⟨k1, k2⟩
        · rw [k2, if_pos k1]
          simp only [takeD_zero, takeD_cons, List.cons_append, List.nil_append, List.getD_cons_zero, List.getD_cons_succ, D.int_i, if_true, show ((0 : Int) == 0) = true from rfl]
        · rw [k2, if_neg (c := anyN (badS g.N M) M.length = true) (by rw [k1]; decide)]
          simp only [takeD_zero, takeD_cons, List.cons_append, List.nil_append, List.getD_cons_zero, List.getD_cons_succ, D.int_i, Bool.false_eq_true, if_false, show ((1 : Int) == 0) = false from rfl, lpT1_eq]
          refine ⟨fun _ => p2, ?_⟩
          rcases scan_any (p := outN g.N M K o.m) (hit := fun j => [D.i 0, .i 3, .i (j : Int)]) (miss := fun j => [D.i 1, .i 0, .i (j : Int)]) g.N.length with ⟨k3, j, _, _, _, k4⟩ | ⟨k3, k4⟩
          · rw [k4, if_neg (c := withinB g o.m M K = true) (by rw [withinB, k3, Bool.true_or]; decide)]
            simp only [takeD_zero, takeD_cons, List.cons_append, List.nil_append, List.getD_cons_zero, List.getD_cons_succ, D.int_i, if_true, show ((0 : Int) == 0) = true from rfl]
          · rw [k4]
            simp only [takeD_zero, takeD_cons, List.cons_append, List.nil_append, List.getD_cons_zero, List.getD_cons_succ, D.int_i, Bool.false_eq_true, if_false, show ((1 : Int) == 0) = false from rfl, lpT2_eq]
            refine ⟨fun _ => p3, ?_⟩
            rcases scan_any (p := outC g.C K o.m) (hit := fun j => [D.i 0, .i 3, .i (j : Int)]) (miss := fun j => [D.i 1, .i 0, .i (j : Int)]) g.C.length with ⟨k5, j, _, _, _, k6⟩ | ⟨k5, k6⟩
            · rw [k6, if_neg (c := withinB g o.m M K = true) (by rw [withinB, k3, k5]; decide)]
              simp only [takeD_zero, takeD_cons, List.cons_append, List.nil_append, List.getD_cons_zero, List.getD_cons_succ, D.int_i, if_true, takeD1_0, show ((0 : Int) == 0) = true from rfl]
            · rw [k6, if_pos (c := withinB g o.m M K = true) (by rw [withinB, k3, k5]; decide)]
              simp only [takeD_zero, takeD_cons, List.cons_append, List.nil_append, List.getD_cons_zero, List.getD_cons_succ, D.int_i, D.bool_b, Bool.false_eq_true, if_false, show ((1 : Int) == 0) = false from rfl, overD_eq]
              refine ⟨fun _ => p4, ?_⟩
              cases h8 : overB g M K <;> rfl
    · have h2' : Od.ok ⟨o.md, o.ns, o.rs, o.m, o.rd⟩ = false := Bool.eq_false_iff.2 h2
      simp only [h2', Bool.not_false, if_true]
      rw [chkE, if_pos h1, if_neg h2]
  · have hb : (!(validE g == 0)) = true := by simp [h1]
    rw [if_pos hb, chkE_err h1]
end Go.Proofs.Ytindllmeeckfcaa.rv
namespace Go.Proofs.Ytindllmeeckfcaa.rv
set_option maxRecDepth 10000
open Go.RV
theorem loopM37_0 : LoopMeets Try.prog F (R L37_0.key) L37_0 lb37_0 := by
  refine loop_meets (pre := R) mixed (sgAt_all (P := Try.prog) (pre := R) (Φ := F) (l := sg37) ((fun _ h => nomatch h))) (loops_n 0 lk37_0 fun k hk => by omega) L37_0 (fun ρ => (((ρ.getD 0 default).lst.length : Int) - (ρ.getD 3 default).int).toNat) le37_0 fun ρ _ hq => ?_
  obtain ⟨xs, ys, v, j, rfl, hj, hm, hl⟩ : prS4 ρ := hq
  rw [maxLen_val] at hm
  by_cases hlt : j < xs.length
  · simp (disch := omega) only [rt37_0, VT.ok, Nd.holds, X.ds, X.d, Op1.ev, Op2.ev, List.getD_cons_zero, List.getD_cons_succ, D.int_i, D.bool_b, D.lst_l, ite_b, ite_and, Int.toNat_natCast, implies_true, true_and, ↓reduceIte, dle_t, dlt_t, w64']
    show if (!same4 (el xs j) (el ys j)) = true then _ else _
    cases hb : (!same4 (el xs j) (el ys j))
    · simp only [Bool.false_eq_true, if_false]
      refine round_next ⟨⟨xs, ys, v, j + 1, rfl, by omega, hm, hl⟩, ?_, ?_⟩
      · show ((xs.length : Int) - ((j + 1 : Nat) : Int)).toNat < ((xs.length : Int) - (j : Int)).toNat
        omega
      · show lpS4 [.l xs, .l ys, v, .i ((j + 1 : Nat) : Int)] = lpS4 [.l xs, .l ys, v, .i (j : Int)]
        simp only [lpS4, scB, Int.toNat_natCast]
        exact scan_next hlt hb
    · simp only [if_true]
      refine round_exit (by omega) ?_
      show lpS4 [.l xs, .l ys, v, .i (j : Int)] = _
      simp only [lpS4, scB, Int.toNat_natCast]
      exact scan_hit hlt hb
  · have hj' : j = xs.length := by omega
    subst hj'
    simp (disch := omega) only [rt37_0, VT.ok, X.ds, X.d, Op1.ev, Op2.ev, List.getD_cons_zero, List.getD_cons_succ, D.int_i, D.bool_b, D.lst_l, Bool.false_eq_true, ↓reduceIte, dlt_f]
    refine round_exit (by omega) ?_
    show lpS4 [.l xs, .l ys, v, .i (xs.length : Int)] = _
    simp only [lpS4, scB, Int.toNat_natCast]
    exact scan_end
theorem sameLD_eq (xs ys : List (List D)) : sameLD [.l xs, .l ys] = [.b (eqR same4 xs ys)] := rfl
theorem lpS4_eq (xs ys : List (List D)) : lpS4 [.l xs, .l ys, .b false, .i 0] = scanN (fun j => !same4 (el xs j) (el ys j)) (fun j => [.i 0, .b false, .i (j : Int)]) (fun j => [.i 1, .b false, .i (j : Int)]) xs.length 0 := by
  simp only [lpS4, scB, Int.toNat_zero, Nat.sub_zero]
theorem m37 : Meets Try.prog 37 S37 (R 37) (F 37) := by
  refine meets_of_vt (pre := R) (Φ := F) mixed (sgAt_all (P := Try.prog) (pre := R) (Φ := F) (l := sg37) ((fun _ h => nomatch h))) Try.func37 b37 n37 (loops_n 1 k37 fun k hk => match k, hk with | 0, _ => loop_this lf37_0 loopM37_0) e37 fun ds hf _ => ?_
  obtain ⟨x, y, rfl, hx, hy⟩ := fits2 hf.flat
  obtain ⟨xs, rfl, hm, _⟩ := wf_sl hx
  obtain ⟨ys, rfl, hm', _⟩ := wf_sl hy
  by_cases hl : ys.length = xs.length
  · have hpre : prS4 [.l xs, .l ys, .b false, .i 0] := ⟨xs, ys, _, 0, rfl, by omega, hm, hl⟩
    simp (disch := omega) only [vt37, VT.ok, Nd.holds, X.outs, X.ds, X.d, Op1.ev, Op2.ev, List.cons_append, List.nil_append, List.getD_cons_zero, List.getD_cons_succ, D.int_i, D.bool_b, D.lst_l, Bool.false_eq_true, F13700, R13700, F37, ↓reduceIte, beq_t, Bool.not_true, lpS4_eq, sameLD_eq]
    refine ⟨fun _ => hpre, ?_⟩
    rcases scan_any (p := fun j => !same4 (el xs j) (el ys j)) (hit := fun j => [D.i 0, .b false, .i (j : Int)]) (miss := fun j => [D.i 1, .b false, .i (j : Int)]) xs.length with ⟨k1, j, _, _, _, k2⟩ | ⟨k1, k2⟩
    · rw [k2, eqR, k1, Bool.not_true, Bool.and_false]; rfl
    · rw [k2, eqR, k1, show ((xs.length : Int) == (ys.length : Int)) = true from beq_t (by omega)]; rfl
  · simp (disch := omega) only [vt37, VT.ok, X.ds, X.d, Op1.ev, Op2.ev, List.getD_cons_zero, List.getD_cons_succ, D.int_i, D.bool_b, D.lst_l, F37, ↓reduceIte, beq_f, Bool.not_false, sameLD_eq]
    rw [eqR, show ((xs.length : Int) == (ys.length : Int)) = false from beq_f (by omega), Bool.false_and]
theorem m14 : Meets Try.prog 14 S14 (R 14) (F 14) := by
  refine meets_of_vt (pre := R) (Φ := F) mixed (sgAt_all (P := Try.prog) (pre := R) (Φ := F) (l := sg14) (List.forall_mem_cons.2 ⟨Meets.at (pre := R) (Φ := F) m37, (fun _ h => nomatch h)⟩)) Try.func14 b14 n14 (loops_n 0 k14 fun k hk => by omega) e14 fun ds hf _ => ?_
  obtain ⟨x, y, rfl, hx, hy⟩ := fits2 hf.flat
  obtain ⟨xs, rfl, hm, _⟩ := wf_sl hx
  obtain ⟨ys, rfl, hm', _⟩ := wf_sl hy
  simp only [vt14, VT.ok, Nd.holds, X.outs, X.ds, X.d, takeD_zero, takeD_cons, List.cons_append, List.nil_append, List.getD_cons_zero, List.getD_cons_succ, D.bool_b, implies_true, and_true, F37, R37, F14, sameLD_eq]
theorem loopM8_1 : LoopMeets Try.prog F (R L8_1.key) L8_1 lb8_1 := by
  refine loop_meets (pre := R) mixed (sgAt_all (P := Try.prog) (pre := R) (Φ := F) (l := sg8) ((fun _ h => nomatch h))) (loops_n 0 lk8_1 fun k hk => by omega) L8_1 (fun ρ => (((ρ.getD 7 default).lst.length : Int) - (ρ.getD 1 default).int).toNat) le8_1 fun ρ _ hq => ?_
  obtain ⟨v, a, b, c, d, e, xs, j, rfl, hj, hm⟩ : prF1 ρ := hq
  by_cases hlt : j < xs.length
  · simp (disch := omega) only [rt8_1, VT.ok, Nd.holds, X.ds, X.d, Op1.ev, Op2.ev, List.getD_cons_zero, List.getD_cons_succ, D.int_i, D.bool_b, D.lst_l, Int.toNat_natCast, implies_true, true_and, ↓reduceIte, dle_t, dlt_t, w64']
    show if fwPt xs j = true then _ else _
    cases hb : fwPt xs j
    · simp only [Bool.false_eq_true, if_false]
      refine round_next ⟨⟨v, a, b, c, d, e, xs, j + 1, rfl, by omega, hm⟩, ?_, ?_⟩
      · show ((xs.length : Int) - ((j + 1 : Nat) : Int)).toNat < ((xs.length : Int) - (j : Int)).toNat
        omega
      · show lpF1 [v, .i ((j + 1 : Nat) : Int), a, b, c, d, e, .l xs] = lpF1 [v, .i (j : Int), a, b, c, d, e, .l xs]
        simp only [lpF1, scB, Int.toNat_natCast]
        exact scan_next hlt hb
    · simp only [if_true]
      refine round_exit (by omega) ?_
      show lpF1 [v, .i (j : Int), a, b, c, d, e, .l xs] = _
      simp only [lpF1, scB, Int.toNat_natCast]
      exact scan_hit hlt hb
  · have hj' : j = xs.length := by omega
    subst hj'
    simp (disch := omega) only [rt8_1, VT.ok, X.ds, X.d, Op1.ev, Op2.ev, List.getD_cons_zero, List.getD_cons_succ, D.int_i, D.bool_b, D.lst_l, Bool.false_eq_true, ↓reduceIte, dlt_f]
    refine round_exit (by omega) ?_
    show lpF1 [v, .i (xs.length : Int), a, b, c, d, e, .l xs] = _
    simp only [lpF1, scB, Int.toNat_natCast]
    exact scan_end
theorem loopM8_2 : LoopMeets Try.prog F (R L8_2.key) L8_2 lb8_2 := by
  refine loop_meets (pre := R) mixed (sgAt_all (P := Try.prog) (pre := R) (Φ := F) (l := sg8) ((fun _ h => nomatch h))) (loops_n 0 lk8_2 fun k hk => by omega) L8_2 (fun ρ => (((ρ.getD 5 default).lst.length : Int) - (ρ.getD 1 default).int).toNat) le8_2 fun ρ _ hq => ?_
  obtain ⟨v, g, j, rfl, hj, hm⟩ : prF2 ρ := hq
  by_cases hlt : j < g.E.length
  · simp (disch := omega) only [rt8_2, VT.ok, Nd.holds, X.ds, X.d, Op1.ev, Op2.ev, List.getD_cons_zero, List.getD_cons_succ, D.int_i, D.bool_b, D.lst_l, ite_b, ite_or, Int.toNat_natCast, implies_true, true_and, ↓reduceIte, dle_t, dlt_t, w64']
    show if fwEd g.E j = true then _ else _
    cases hb : fwEd g.E j
    · simp only [Bool.false_eq_true, if_false]
      refine round_next ⟨⟨v, g, j + 1, rfl, by omega, hm⟩, ?_, ?_⟩
      · show ((g.E.length : Int) - ((j + 1 : Nat) : Int)).toNat < ((g.E.length : Int) - (j : Int)).toNat
        omega
      · show lpF2 [v, .i ((j + 1 : Nat) : Int), .s g.nm, .b g.dr, .l g.N, .l g.E, .l g.C] = lpF2 [v, .i (j : Int), .s g.nm, .b g.dr, .l g.N, .l g.E, .l g.C]
        simp only [lpF2, scB, Int.toNat_natCast]
        exact scan_next hlt hb
    · simp only [if_true]
      refine round_exit (by omega) ?_
      show lpF2 [v, .i (j : Int), .s g.nm, .b g.dr, .l g.N, .l g.E, .l g.C] = _
      simp only [lpF2, scB, Int.toNat_natCast]
      exact scan_hit hlt hb
  · have hj' : j = g.E.length := by omega
    subst hj'
    simp (disch := omega) only [rt8_2, VT.ok, X.ds, X.d, Op1.ev, Op2.ev, List.getD_cons_zero, List.getD_cons_succ, D.int_i, D.bool_b, D.lst_l, Bool.false_eq_true, ↓reduceIte, dlt_f]
    refine round_exit (by omega) ?_
    show lpF2 [v, .i (g.E.length : Int), .s g.nm, .b g.dr, .l g.N, .l g.E, .l g.C] = _
    simp only [lpF2, scB, Int.toNat_natCast]
    exact scan_end
theorem loopM8_3 : LoopMeets Try.prog F (R L8_3.key) L8_3 lb8_3 := by
  refine loop_meets (pre := R) mixed (sgAt_all (P := Try.prog) (pre := R) (Φ := F) (l := sg8) ((fun _ h => nomatch h))) (loops_n 0 lk8_3 fun k hk => by omega) L8_3 (fun ρ => (((ρ.getD 6 default).lst.length : Int) - (ρ.getD 1 default).int).toNat) le8_3 fun ρ _ hq => ?_
  obtain ⟨v, g, j, rfl, hj, hm⟩ : prF3 ρ := hq
  by_cases hlt : j < g.C.length
  · simp (disch := omega) only [rt8_3, VT.ok, Nd.holds, X.ds, X.d, Op1.ev, Op2.ev, List.getD_cons_zero, List.getD_cons_succ, D.int_i, D.bool_b, D.lst_l, Int.toNat_natCast, implies_true, true_and, ↓reduceIte, dle_t, dlt_t, w64']
    show if fwPt g.C j = true then _ else _
    cases hb : fwPt g.C j
    · simp only [Bool.false_eq_true, if_false]
      refine round_next ⟨⟨v, g, j + 1, rfl, by omega, hm⟩, ?_, ?_⟩
      · show ((g.C.length : Int) - ((j + 1 : Nat) : Int)).toNat < ((g.C.length : Int) - (j : Int)).toNat
        omega
      · show lpF3 [v, .i ((j + 1 : Nat) : Int), .s g.nm, .b g.dr, .l g.N, .l g.E, .l g.C] = lpF3 [v, .i (j : Int), .s g.nm, .b g.dr, .l g.N, .l g.E, .l g.C]
        simp only [lpF3, scB, Int.toNat_natCast]
        exact scan_next hlt hb
    · simp only [if_true]
      refine round_exit (by omega) ?_
      show lpF3 [v, .i (j : Int), .s g.nm, .b g.dr, .l g.N, .l g.E, .l g.C] = _
      simp only [lpF3, scB, Int.toNat_natCast]
      exact scan_hit hlt hb
  · have hj' : j = g.C.length := by omega
    subst hj'
    simp (disch := omega) only [rt8_3, VT.ok, X.ds, X.d, Op1.ev, Op2.ev, List.getD_cons_zero, List.getD_cons_succ, D.int_i, D.bool_b, D.lst_l, Bool.false_eq_true, ↓reduceIte, dlt_f]
    refine round_exit (by omega) ?_
    show lpF3 [v, .i (g.C.length : Int), .s g.nm, .b g.dr, .l g.N, .l g.E, .l g.C] = _
    simp only [lpF3, scB, Int.toNat_natCast]
    exact scan_end
theorem lpF0_eq (v : D) (g : Gd) (j : Nat) : lpF0 [v, .i (j : Int), .s g.nm, .b g.dr, .l g.N, .l g.E, .l g.C] = scanN (fwNd g.N) (fun j => [.i 0, .b false, .i (j : Int)]) (fun j => [.i 1, v, .i (j : Int)]) (g.N.length - j) j := by
  simp only [lpF0, scB, Int.toNat_natCast]
theorem lpF1_eq (v a b c d e : D) (xs : List (List D)) : lpF1 [v, .i 0, a, b, c, d, e, .l xs] = scanN (fwPt xs) (fun j => [.i 0, .b false, .i (j : Int)]) (fun j => [.i 1, v, .i (j : Int)]) xs.length 0 := by
  simp only [lpF1, scB, Int.toNat_zero, Nat.sub_zero]
theorem lpF2_eq (v : D) (g : Gd) : lpF2 [v, .i 0, .s g.nm, .b g.dr, .l g.N, .l g.E, .l g.C] = scanN (fwEd g.E) (fun j => [.i 0, .b false, .i (j : Int)]) (fun j => [.i 1, v, .i (j : Int)]) g.E.length 0 := by
  simp only [lpF2, scB, Int.toNat_zero, Nat.sub_zero]
theorem lpF3_eq (v : D) (g : Gd) : lpF3 [v, .i 0, .s g.nm, .b g.dr, .l g.N, .l g.E, .l g.C] = scanN (fwPt g.C) (fun j => [.i 0, .b false, .i (j : Int)]) (fun j => [.i 1, v, .i (j : Int)]) g.C.length 0 := by
  simp only [lpF3, scB, Int.toNat_zero, Nat.sub_zero]
theorem loopM8_0 : LoopMeets Try.prog F (R L8_0.key) L8_0 lb8_0 := by
  refine loop_meets (pre := R) mixed (sgAt_all (P := Try.prog) (pre := R) (Φ := F) (l := sg8) ((fun _ h => nomatch h))) (loops_n 1 lk8_0 fun k hk => match k, hk with | 0, _ => by rw [li8_0_0]; exact loop_this lf8_1 loopM8_1) L8_0 (fun ρ => (((ρ.getD 4 default).lst.length : Int) - (ρ.getD 1 default).int).toNat) le8_0 fun ρ _ hq => ?_
  obtain ⟨v, g, j, rfl, hj, h64, hN⟩ : prF0 ρ := hq
  by_cases hlt : j < g.N.length
  · obtain ⟨_, xs, hx⟩ := hN j hlt
    have hx' : (g.N.getD j []).getD 5 default = .l xs := hx
    have hcl : cL (el g.N j) 5 = xs := by simp only [cL]; rw [hx]; rfl
    have hhit : fwNd g.N j = true → RoundOk F (R L8_0.key) (fun ρ => (((ρ.getD 4 default).lst.length : Int) - (ρ.getD 1 default).int).toNat) L8_0 [v, .i (j : Int), .s g.nm, .b g.dr, .l g.N, .l g.E, .l g.C] [.i 0, .b false, .i (j : Int)] := fun h => by
      refine round_exit (by omega) ?_
      rw [show F L8_0.key = lpF0 from rfl, lpF0_eq]
      exact scan_hit hlt h
    have hmiss : fwNd g.N j = false → RoundOk F (R L8_0.key) (fun ρ => (((ρ.getD 4 default).lst.length : Int) - (ρ.getD 1 default).int).toNat) L8_0 [v, .i (j : Int), .s g.nm, .b g.dr, .l g.N, .l g.E, .l g.C] [.i (-1), v, .i ((j + 1 : Nat) : Int)] := fun h => by
      refine round_next ⟨⟨v, g, j + 1, rfl, by omega, h64, hN⟩, ?_, ?_⟩
      · show ((g.N.length : Int) - ((j + 1 : Nat) : Int)).toNat < ((g.N.length : Int) - (j : Int)).toNat
        omega
      · show lpF0 [v, .i ((j + 1 : Nat) : Int), .s g.nm, .b g.dr, .l g.N, .l g.E, .l g.C] = lpF0 [v, .i (j : Int), .s g.nm, .b g.dr, .l g.N, .l g.E, .l g.C]
        rw [lpF0_eq, lpF0_eq]
        exact scan_next hlt h
    have hfw : fwNd g.N j = (((decide (40 < ((cS (el g.N j) 0).size : Int)) || decide (80 < ((cS (el g.N j) 1).size : Int))) || decide (9 < (xs.length : Int))) || anyN (fwPt xs) xs.length) := by
      unfold fwNd; rw [hcl]
    simp (disch := omega) only [rt8_0, VT.ok, Nd.holds, X.outs, X.ds, X.d, Op1.ev, Op2.ev, List.cons_append, List.nil_append, List.getD_cons_zero, List.getD_cons_succ, D.int_i, D.bool_b, D.lst_l, ite_b, ite_or, Int.toNat_natCast, implies_true, true_and, F10800, R10800, ↓reduceIte, dle_t, dlt_t, w64', hx', lpF1_eq]
    show if ((decide (40 < ((cS (el g.N j) 0).size : Int)) || decide (80 < ((cS (el g.N j) 1).size : Int))) || decide (9 < (xs.length : Int))) = true then _ else _
    cases hA : ((decide (40 < ((cS (el g.N j) 0).size : Int)) || decide (80 < ((cS (el g.N j) 1).size : Int))) || decide (9 < (xs.length : Int)))
    · have h9 : xs.length ≤ 9 := by
        simp only [Bool.or_eq_false_iff, decide_eq_false_iff_not] at hA
        omega
      rw [if_neg (by decide)]
      refine ⟨fun _ => ⟨_, _, _, _, _, _, xs, 0, rfl, by omega, h9⟩, ?_⟩
      rcases scan_any (p := fwPt xs) (hit := fun j => [D.i 0, .b false, .i (j : Int)]) (miss := fun j => [D.i 1, v, .i (j : Int)]) xs.length with ⟨k1, j, _, _, _, k2⟩ | ⟨k1, k2⟩
      · rw [k2]
        simp only [takeD_zero, takeD_cons, List.getD_cons_zero, List.getD_cons_succ, D.int_i, if_true, show ((0 : Int) == 0) = true from rfl]
        exact hhit (by rw [hfw, hA, k1]; rfl)
      · rw [k2]
        simp only [takeD_zero, takeD_cons, List.getD_cons_zero, List.getD_cons_succ, D.int_i, Bool.false_eq_true, if_false, show ((1 : Int) == 0) = false from rfl]
        exact hmiss (by rw [hfw, hA, k1]; rfl)
    · rw [if_pos rfl]
      exact hhit (by rw [hfw, hA]; rfl)
  · have hj : j = g.N.length := by omega
    subst hj
    simp (disch := omega) only [rt8_0, VT.ok, X.ds, X.d, Op1.ev, Op2.ev, List.getD_cons_zero, List.getD_cons_succ, D.int_i, D.bool_b, D.lst_l, Bool.false_eq_true, ↓reduceIte, dlt_f]
    refine round_exit (by omega) ?_
    rw [show F L8_0.key = lpF0 from rfl, lpF0_eq]
    exact scan_end
theorem fewGD_eq (g : Gd) (n e : Int) : fewGD [.s g.nm, .b g.dr, .l g.N, .l g.E, .l g.C, .i n, .i e] = [.b (fewG g n e)] := rfl
theorem nodeRow {x : List D} {a b c d e : CT} {t : TypeId} {c6 : List CT} (h : FitsF [a, b, c, d, e, .sl t c6] x) : x.length = 6 ∧ ∃ xs, x.getD 5 default = .l xs := by
  match x, h with
  | [_, _, _, _, _, y], ⟨_, _, _, _, _, h6, _⟩ =>
    obtain ⟨xs, rfl, _⟩ := wf_sl h6
    exact ⟨rfl, xs, rfl⟩
theorem m8 : Meets Try.prog 8 S8 (R 8) (F 8) := by
  refine meets_of_vt (pre := R) (Φ := F) mixed (sgAt_all (P := Try.prog) (pre := R) (Φ := F) (l := sg8) ((fun _ h => nomatch h))) Try.func8 b8 n8 (loops_n 4 k8 fun k hk => match k, hk with | 0, _ => loop_this lf8_0 loopM8_0 | 1, _ => loop_this lf8_1 loopM8_1 | 2, _ => loop_this lf8_2 loopM8_2 | 3, _ => loop_this lf8_3 loopM8_3) e8 fun ds hf hq => ?_
  obtain ⟨g, ds', rfl, h5, _, ⟨hmN, hN⟩, ⟨hmE, _⟩, hmC, _⟩ := fitsG hf.flat
  obtain ⟨x, y, rfl, hx, hy⟩ := fits2 h5
  obtain ⟨n, rfl, _⟩ := wf_i64 hx
  obtain ⟨e, rfl, _⟩ := wf_i64 hy
  obtain ⟨hn, he⟩ : n ≤ 64 ∧ e ≤ 64 := hq
  simp only [vt8, VT.ok, Nd.holds, X.outs, X.ds, X.d, Op1.ev, Op2.ev, List.cons_append, List.nil_append, List.getD_cons_zero, List.getD_cons_succ, D.int_i, D.bool_b, D.lst_l, D.str_s, ite_b, ite_or, F10801, R10801, F10802, R10802, F10803, R10803, F8, fewGD_eq]
  show if (((decide (n < (g.N.length : Int)) || decide (e < (g.E.length : Int))) || decide (6 < (g.C.length : Int))) || decide (40 < (g.nm.size : Int))) = true then _ else _
  generalize hres : fewG g n e = res
  unfold fewG at hres
  cases hA : (((decide (n < (g.N.length : Int)) || decide (e < (g.E.length : Int))) || decide (6 < (g.C.length : Int))) || decide (40 < (g.nm.size : Int)))
  · rw [hA] at hres
    have hA' := hA
    simp only [Bool.or_eq_false_iff, decide_eq_false_iff_not] at hA'
    rw [if_neg (by decide)]
    have e0 := lpF0_eq (.b false) g 0
    simp only [Int.natCast_zero, Nat.sub_zero] at e0
    simp only [e0]
    refine ⟨fun _ => ⟨_, g, 0, rfl, by omega, by omega, fun k hk => nodeRow (hN _ (getD_mem [] hk))⟩, ?_⟩
    rcases scan_any (p := fwNd g.N) (hit := fun j => [D.i 0, .b false, .i (j : Int)]) (miss := fun j => [D.i 1, .b false, .i (j : Int)]) g.N.length with ⟨k1, j, _, _, _, k2⟩ | ⟨k1, k2⟩
    · rw [k2, ← hres, k1]; rfl
    · rw [k2]
      simp only [takeD_zero, takeD_cons, List.cons_append, List.nil_append, List.getD_cons_zero, List.getD_cons_succ, D.int_i, Bool.false_eq_true, if_false, show ((1 : Int) == 0) = false from rfl, lpF2_eq]
      refine ⟨fun _ => ⟨_, g, 0, rfl, by omega, by omega⟩, ?_⟩
      rcases scan_any (p := fwEd g.E) (hit := fun j => [D.i 0, .b false, .i (j : Int)]) (miss := fun j => [D.i 1, .b false, .i (j : Int)]) g.E.length with ⟨k3, j, _, _, _, k4⟩ | ⟨k3, k4⟩
      · rw [k4, ← hres, k1, k3]; rfl
      · rw [k4]
        simp only [takeD_zero, takeD_cons, List.cons_append, List.nil_append, List.getD_cons_zero, List.getD_cons_succ, D.int_i, Bool.false_eq_true, if_false, show ((1 : Int) == 0) = false from rfl, lpF3_eq]
        refine ⟨fun _ => ⟨_, g, 0, rfl, by omega, by omega⟩, ?_⟩
        rcases scan_any (p := fwPt g.C) (hit := fun j => [D.i 0, .b false, .i (j : Int)]) (miss := fun j => [D.i 1, .b false, .i (j : Int)]) g.C.length with ⟨k5, j, _, _, _, k6⟩ | ⟨k5, k6⟩
        · rw [k6, ← hres, k1, k3, k5]; rfl
        · rw [k6, ← hres, k1, k3, k5]; rfl
  · rw [hA] at hres
    rw [if_pos rfl, ← hres]; rfl
end Go.Proofs.Ytindllmeeckfcaa.rv
namespace Go.Proofs.Ytindllmeeckfcaa.rv
set_option maxRecDepth 10000
open Go.RV
theorem m9 : Meets Try.prog 9 S9 (R 9) (F 9) := by
  refine meets_of_vt (pre := R) (Φ := F) mixed (sgAt_all (P := Try.prog) (pre := R) (Φ := F) (l := sg9) (List.forall_mem_cons.2 ⟨Meets.at (pre := R) (Φ := F) m12, List.forall_mem_cons.2 ⟨Meets.at (pre := R) (Φ := F) m10, List.forall_mem_cons.2 ⟨Meets.at (pre := R) (Φ := F) m14, List.forall_mem_cons.2 ⟨Meets.at (pre := R) (Φ := F) m11, (fun _ h => nomatch h)⟩⟩⟩⟩)) Try.func9 b9 n9 (loops_n 0 k9 fun k hk => by omega) e9 fun ds hf hq => ?_
  have e0 := fits0 hf.flat
  subst e0
  simp only [vt9, VT.ok, Nd.holds, X.outs, X.ds, X.d, Op1.ev, Op2.ev, List.nil_append, D.int_i, D.bool_b, D.lst_l, implies_true, true_and, F12, R12, F10, R10, F11, R11, F14, R14, F9]
  refine ⟨fun _ => by kernel_rfl, fun _ => by kernel_rfl, fun _ => by kernel_rfl, by kernel_rfl⟩
theorem law6 : Meets Try.prog 6 S6 (fun _ => True) (fun _ => [.b true]) := by
  refine meets_of_vt (pre := R) (Φ := F) mixed (sgAt_all (P := Try.prog) (pre := R) (Φ := F) (l := sg6) (List.forall_mem_cons.2 ⟨Meets.at (pre := R) (Φ := F) m8, List.forall_mem_cons.2 ⟨Meets.at (pre := R) (Φ := F) m9, List.forall_mem_cons.2 ⟨Meets.at (pre := R) (Φ := F) m11, List.forall_mem_cons.2 ⟨Meets.at (pre := R) (Φ := F) m16, (fun _ h => nomatch h)⟩⟩⟩⟩)) Try.func6 b6 n6 (loops_n 0 k6 fun k hk => by omega) e6 fun ds hf _ => ?_
  obtain ⟨g, o, M, ds', rfl, h0, hm, _⟩ := fitsGO hf.flat
  obtain ⟨x, rfl, hx⟩ := fits1 h0
  obtain ⟨K, rfl, hk, _⟩ := slQ hx
  have h1 : fewGP [.s g.nm, .b g.dr, .l g.N, .l g.E, .l g.C, .i 8, .i 6] := by show (8 : Int) ≤ 64 ∧ (6 : Int) ≤ 64; decide
  simp only [vt6, VT.ok, Nd.holds, X.outs, X.ds, X.d, Op1.ev, Op2.ev, takeD_zero, takeD_cons, List.cons_append, List.nil_append, List.getD_cons_zero, List.getD_cons_succ, D.int_i, D.bool_b, D.lst_l, ite_b, ite_or, ite_and, List.length_map, implies_true, true_and, and_true, F11, R11, F16, R16, F8, R8, F9, R9, fewGD_eq, chD_eq, one]
  refine ⟨fun _ => h1, ?_⟩
  split
  · trivial
  · simp
end Go.Proofs.Ytindllmeeckfcaa.rv
