/-
  Nested clusters: Check of the program.; Nested clusters: equal lists, small graphs.; Nested clusters: the chapter's example, the first laws.
-/
import Derived.Test.YtindllmeeckfcaaZCompoundSizesN
namespace Go.Proofs.Ytindllmeeckfcaa.rv
set_option maxRecDepth 10000
open Go.RV
theorem loopM31_0 : LoopMeets Try.prog F (R L31_0.key) L31_0 lb31_0 := by
  refine loop_meets (pre := R) mixed (sgAt_all (P := Try.prog) (pre := R) (Φ := F) (l := sg31) (List.forall_mem_cons.2 ⟨Meets.at (pre := R) (Φ := F) m25, List.forall_mem_cons.2 ⟨Meets.at (pre := R) (Φ := F) m60, List.forall_mem_cons.2 ⟨Meets.at (pre := R) (Φ := F) m61, List.forall_mem_cons.2 ⟨Meets.at (pre := R) (Φ := F) m18, List.forall_mem_cons.2 ⟨Meets.at (pre := R) (Φ := F) m62, (fun _ h => nomatch h)⟩⟩⟩⟩⟩)) (loops_n 0 lk31_0 fun k hk => by omega) L31_0 (fun ρ => ((ρ.getD 3 default).int - (ρ.getD 4 default).int).toNat) le31_0 fun ρ _ hq => ?_
  obtain ⟨v, M, j, rfl, hj, hm⟩ : prV3 ρ := hq
  rw [maxLen_val] at hm
  by_cases hlt : j < M.length
  · have hcf := cfOv (f := 59) (.inl rfl) (M.take j) (M.getD j z4)
    rw [ov_take (by omega)] at hcf
    simp (disch := omega) only [rt31_0, VT.ok, Nd.holds, X.outs, X.ds, X.d, Op1.ev, Op2.ev, takeD_zero, takeD_cons, List.cons_append, List.nil_append, List.getD_cons_zero, List.getD_cons_succ, D.int_i, D.bool_b, D.lst_l, Int.toNat_natCast, List.length_map, implies_true, true_and, F25, R25, ↓reduceIte, dle_t, dlt_t, w64', rowQz, encQ, Int.toNat_zero, List.drop_zero, takeQ, hcf.2]
    refine ⟨fun _ => hcf.1, ?_⟩
    show if ovN M j = true then _ else _
    cases hb : ovN M j
    · simp only [Bool.false_eq_true, if_false]
      refine round_next ⟨⟨v, M, j + 1, rfl, by omega, hm⟩, ?_, ?_⟩
      · show ((M.length : Int) - ((j + 1 : Nat) : Int)).toNat < ((M.length : Int) - (j : Int)).toNat
        omega
      · show lpV3 [.l (M.map encQ), v, .l (M.map encQ), .i (M.length : Int), .i ((j + 1 : Nat) : Int)] = lpV3 [.l (M.map encQ), v, .l (M.map encQ), .i (M.length : Int), .i (j : Int)]
        simp only [lpV3, map_decQ, List.length_map, scB, Int.toNat_natCast]
        exact scan_next hlt hb
    · simp only [if_true]
      refine round_exit (by omega) ?_
      show lpV3 [.l (M.map encQ), v, .l (M.map encQ), .i (M.length : Int), .i (j : Int)] = _
      simp only [lpV3, map_decQ, List.length_map, scB, Int.toNat_natCast]
      exact scan_hit hlt hb
  · have hj' : j = M.length := by omega
    subst hj'
    simp (disch := omega) only [rt31_0, VT.ok, X.ds, X.d, Op2.ev, List.getD_cons_zero, List.getD_cons_succ, D.int_i, D.bool_b, Bool.false_eq_true, ↓reduceIte, dlt_f]
    refine round_exit (by omega) ?_
    show lpV3 [.l (M.map encQ), v, .l (M.map encQ), .i (M.length : Int), .i (M.length : Int)] = _
    simp only [lpV3, map_decQ, List.length_map, scB, Int.toNat_natCast]
    exact scan_end
theorem loopM31_2 : LoopMeets Try.prog F (R L31_2.key) L31_2 lb31_2 := by
  refine loop_meets (pre := R) mixed (sgAt_all (P := Try.prog) (pre := R) (Φ := F) (l := sg31) (List.forall_mem_cons.2 ⟨Meets.at (pre := R) (Φ := F) m25, List.forall_mem_cons.2 ⟨Meets.at (pre := R) (Φ := F) m60, List.forall_mem_cons.2 ⟨Meets.at (pre := R) (Φ := F) m61, List.forall_mem_cons.2 ⟨Meets.at (pre := R) (Φ := F) m18, List.forall_mem_cons.2 ⟨Meets.at (pre := R) (Φ := F) m62, (fun _ h => nomatch h)⟩⟩⟩⟩⟩)) (loops_n 0 lk31_2 fun k hk => by omega) L31_2 (fun ρ => ((ρ.getD 3 default).int - (ρ.getD 4 default).int).toNat) le31_2 fun ρ _ hq => ?_
  obtain ⟨v, l, M, q, j, rfl, hj, hm⟩ : prMn ρ := hq
  by_cases hlt : j < M.length
  · simp (disch := omega) only [rt31_2, VT.ok, Nd.holds, X.outs, X.ds, X.d, Op1.ev, Op2.ev, takeD_zero, takeD_cons, List.cons_append, List.nil_append, List.getD_cons_zero, List.getD_cons_succ, D.int_i, D.bool_b, D.lst_l, ite_b, ite_and, Int.toNat_natCast, List.length_map, implies_true, true_and, F61, R61, F18, R18, ↓reduceIte, dle_t, dlt_t, w64', rowQz, encQ, ciN_eq, fn18_eq]
    show if (!l.contains j && ovQ (M.getD j z4) q) = true then _ else _
    cases hb : (!l.contains j && ovQ (M.getD j z4) q)
    · simp only [Bool.false_eq_true, if_false]
      refine round_next ⟨⟨v, l, M, q, j + 1, rfl, by omega, hm⟩, ?_, ?_⟩
      · show ((M.length : Int) - ((j + 1 : Nat) : Int)).toNat < ((M.length : Int) - (j : Int)).toNat
        omega
      · show lpMn [v, .l (l.map encN), .l (M.map encQ), .i (M.length : Int), .i ((j + 1 : Nat) : Int), .i q.1, .i q.2.1, .i q.2.2.1, .i q.2.2.2] = lpMn [v, .l (l.map encN), .l (M.map encQ), .i (M.length : Int), .i (j : Int), .i q.1, .i q.2.1, .i q.2.2.1, .i q.2.2.2]
        simp only [lpMn, map_decQ, map_decN, List.length_map, scB, Int.toNat_natCast]
        exact scan_next hlt hb
    · simp only [if_true]
      refine round_exit (by omega) ?_
      show lpMn [v, .l (l.map encN), .l (M.map encQ), .i (M.length : Int), .i (j : Int), .i q.1, .i q.2.1, .i q.2.2.1, .i q.2.2.2] = _
      simp only [lpMn, map_decQ, map_decN, List.length_map, scB, Int.toNat_natCast]
      exact scan_hit hlt hb
  · have hj' : j = M.length := by omega
    subst hj'
    simp (disch := omega) only [rt31_2, VT.ok, X.ds, X.d, Op2.ev, List.getD_cons_zero, List.getD_cons_succ, D.int_i, D.bool_b, Bool.false_eq_true, ↓reduceIte, dlt_f]
    refine round_exit (by omega) ?_
    show lpMn [v, .l (l.map encN), .l (M.map encQ), .i (M.length : Int), .i (M.length : Int), .i q.1, .i q.2.1, .i q.2.2.1, .i q.2.2.2] = _
    simp only [lpMn, map_decQ, map_decN, List.length_map, scB, Int.toNat_natCast]
    exact scan_end
theorem loopM31_3 : LoopMeets Try.prog F (R L31_3.key) L31_3 lb31_3 := by
  refine loop_meets (pre := R) mixed (sgAt_all (P := Try.prog) (pre := R) (Φ := F) (l := sg31) (List.forall_mem_cons.2 ⟨Meets.at (pre := R) (Φ := F) m25, List.forall_mem_cons.2 ⟨Meets.at (pre := R) (Φ := F) m60, List.forall_mem_cons.2 ⟨Meets.at (pre := R) (Φ := F) m61, List.forall_mem_cons.2 ⟨Meets.at (pre := R) (Φ := F) m18, List.forall_mem_cons.2 ⟨Meets.at (pre := R) (Φ := F) m62, (fun _ h => nomatch h)⟩⟩⟩⟩⟩)) (loops_n 0 lk31_3 fun k hk => by omega) L31_3 (fun ρ => ((ρ.getD 3 default).int - (ρ.getD 4 default).int).toNat) le31_3 fun ρ _ hq => ?_
  obtain ⟨v, c, K, q, g, j, rfl, hj, hK, hc, hv⟩ : prMc ρ := hq
  obtain ⟨_, v16⟩ := valid_len hv
  by_cases hlt : j < K.length
  · have h1 : conP [.s g.nm, .b g.dr, .l g.N, .l g.E, .l g.C, .i (j : Int), .i (c : Int)] := ⟨g, _, c, rfl, hc, hv⟩
    have h2 : conP [.s g.nm, .b g.dr, .l g.N, .l g.E, .l g.C, .i (c : Int), .i (j : Int)] := ⟨g, _, j, rfl, by omega, hv⟩
    simp (disch := omega) only [rt31_3, VT.ok, Nd.holds, X.outs, X.ds, X.d, Op1.ev, Op2.ev, takeD_zero, takeD_cons, List.cons_append, List.nil_append, List.getD_cons_zero, List.getD_cons_succ, D.int_i, D.bool_b, D.lst_l, ite_b, ite_and, Int.toNat_natCast, List.length_map, implies_true, true_and, F18, R18, F62, R62, ↓reduceIte, dle_t, dlt_t, w64', rowQz, encQ, conD_eq, fn18_eq]
    refine ⟨fun _ => h1, fun _ => h2, ?_⟩
    show if ((!(around g.C (cP g.C c)).contains (j : Int) && !(around g.C (cP g.C j)).contains (c : Int)) && ovQ (K.getD j z4) q) = true then _ else _
    cases hb : ((!(around g.C (cP g.C c)).contains (j : Int) && !(around g.C (cP g.C j)).contains (c : Int)) && ovQ (K.getD j z4) q)
    · simp only [Bool.false_eq_true, if_false]
      refine round_next ⟨⟨v, c, K, q, g, j + 1, rfl, by omega, hK, hc, hv⟩, ?_, ?_⟩
      · show ((K.length : Int) - ((j + 1 : Nat) : Int)).toNat < ((K.length : Int) - (j : Int)).toNat
        omega
      · show lpMc [v, .i (c : Int), .l (K.map encQ), .i (K.length : Int), .i ((j + 1 : Nat) : Int), .s g.nm, .b g.dr, .l g.N, .l g.E, .l g.C, .i q.1, .i q.2.1, .i q.2.2.1, .i q.2.2.2] = lpMc [v, .i (c : Int), .l (K.map encQ), .i (K.length : Int), .i (j : Int), .s g.nm, .b g.dr, .l g.N, .l g.E, .l g.C, .i q.1, .i q.2.1, .i q.2.2.1, .i q.2.2.2]
        simp only [lpMc, map_decQ, List.length_map, scB, Int.toNat_natCast]
        exact scan_next hlt hb
    · simp only [if_true]
      refine round_exit (by omega) ?_
      show lpMc [v, .i (c : Int), .l (K.map encQ), .i (K.length : Int), .i (j : Int), .s g.nm, .b g.dr, .l g.N, .l g.E, .l g.C, .i q.1, .i q.2.1, .i q.2.2.1, .i q.2.2.2] = _
      simp only [lpMc, map_decQ, List.length_map, scB, Int.toNat_natCast]
      exact scan_hit hlt hb
  · have hj' : j = K.length := by omega
    subst hj'
    simp (disch := omega) only [rt31_3, VT.ok, X.ds, X.d, Op2.ev, List.getD_cons_zero, List.getD_cons_succ, D.int_i, D.bool_b, Bool.false_eq_true, ↓reduceIte, dlt_f]
    refine round_exit (by omega) ?_
    show lpMc [v, .i (c : Int), .l (K.map encQ), .i (K.length : Int), .i (K.length : Int), .s g.nm, .b g.dr, .l g.N, .l g.E, .l g.C, .i q.1, .i q.2.1, .i q.2.2.1, .i q.2.2.2] = _
    simp only [lpMc, map_decQ, List.length_map, scB, Int.toNat_natCast]
    exact scan_end
theorem lies_lt {C : List (List D)} {c d : Nat} (hok : okC C C.length) (hc : c < C.length) (hd : d < c) : lies C c d = (around C (cP C c)).contains (d : Int) := by
  unfold lies
  rw [ar_at hok (by omega) (by omega), List.contains_cons, show ((d : Int) == (c : Int)) = false from beq_f (by omega), Bool.false_or, Int.toNat_natCast]
theorem lies_gt {C : List (List D)} {c d : Nat} (hok : okC C C.length) (hc : c < C.length) (hd : d < c) : lies C d c = (around C (cP C d)).contains (c : Int) := by
  unfold lies
  rw [ar_at hok (by omega) (by omega), List.contains_cons, show ((c : Int) == (d : Int)) = false from beq_f (by omega), Bool.false_or, Int.toNat_natCast]
theorem getD_takeQ {l : List Bx} {i j : Nat} (h : i < j) : (l.take j).getD i z4 = l.getD i z4 := by
  simp only [List.getD]
  rw [List.getElem?_take, if_pos h]
theorem mixC_take {g : Gd} (hv : validE g = 0) {K : List Bx} {j : Nat} (hK : K.length = g.C.length) (hj : j < K.length) :
    anyN (fun k => (!(around g.C (cP g.C j)).contains (k : Int) && !(around g.C (cP g.C k)).contains (j : Int)) && ovQ ((K.take j).getD k z4) (K.getD j z4)) (K.take j).length = anyN (mixC g.C K j) j := by
  rw [List.length_take, Nat.min_eq_left (by omega)]
  obtain ⟨_, _, v3, _⟩ := valid_okV hv
  refine anyN_congr fun k hk => ?_
  simp only [mixC]
  rw [lies_lt v3 (by omega) hk, lies_gt v3 (by omega) hk, getD_takeQ hk]
theorem mixN_mem {g : Gd} {M K : List Bx} {j : Nat} (hM : M.length = g.N.length) : anyN (fun w => !(memL g j).contains w && ovQ (M.getD w z4) (K.getD j z4)) M.length = anyN (mixN g.N g.C M K j) M.length := by
  refine anyN_congr fun k hk => ?_
  simp only [mixN, memL]
  rw [pick_has (by omega)]
theorem lpMn_eq (v : D) (l : List Nat) (M : List Bx) (q : Bx) : lpMn [v, .l (l.map encN), .l (M.map encQ), .i (M.length : Int), .i 0, .i q.1, .i q.2.1, .i q.2.2.1, .i q.2.2.2] = scanN (fun w => !l.contains w && ovQ (M.getD w z4) q) (fun j => [.i 0, .b false, .i (j : Int)]) (fun j => [.i 1, v, .i (j : Int)]) M.length 0 := by
  simp only [lpMn, map_decQ, map_decN, List.length_map, scB, Int.toNat_zero, Nat.sub_zero]
theorem lpMc_eq (v : D) (c : Nat) (K : List Bx) (q : Bx) (g : Gd) (n : Int) : lpMc [v, .i (c : Int), .l (K.map encQ), .i n, .i 0, .s g.nm, .b g.dr, .l g.N, .l g.E, .l g.C, .i q.1, .i q.2.1, .i q.2.2.1, .i q.2.2.2] = scanN (fun k => (!(around g.C (cP g.C c)).contains (k : Int) && !(around g.C (cP g.C k)).contains (c : Int)) && ovQ (K.getD k z4) q) (fun j => [.i 0, .b false, .i (j : Int)]) (fun j => [.i 1, v, .i (j : Int)]) K.length 0 := by
  simp only [lpMc, map_decQ, List.length_map, scB, Int.toNat_zero, Nat.sub_zero, Int.toNat_natCast]
theorem lpMx_eq (v : D) (M K : List Bx) (g : Gd) (j : Nat) : lpMx [.l (M.map encQ), .l (K.map encQ), v, .l (K.map encQ), .i (K.length : Int), .i (j : Int), .s g.nm, .b g.dr, .l g.N, .l g.E, .l g.C] = scanN (mixAny g.N g.C M K) (fun j => [.i 0, .b false, .i (j : Int)]) (fun j => [.i 1, v, .i (j : Int)]) (K.length - j) j := by
  simp only [lpMx, map_decQ, List.length_map, scB, Int.toNat_natCast]
theorem loopM31_1 : LoopMeets Try.prog F (R L31_1.key) L31_1 lb31_1 := by
  refine loop_meets (pre := R) mixed (sgAt_all (P := Try.prog) (pre := R) (Φ := F) (l := sg31) (List.forall_mem_cons.2 ⟨Meets.at (pre := R) (Φ := F) m25, List.forall_mem_cons.2 ⟨Meets.at (pre := R) (Φ := F) m60, List.forall_mem_cons.2 ⟨Meets.at (pre := R) (Φ := F) m61, List.forall_mem_cons.2 ⟨Meets.at (pre := R) (Φ := F) m18, List.forall_mem_cons.2 ⟨Meets.at (pre := R) (Φ := F) m62, (fun _ h => nomatch h)⟩⟩⟩⟩⟩)) (loops_n 2 lk31_1 fun k hk => match k, hk with | 0, _ => by rw [li31_1_0]; exact loop_this lf31_2 loopM31_2 | 1, _ => by rw [li31_1_1]; exact loop_this lf31_3 loopM31_3) L31_1 (fun ρ => ((ρ.getD 4 default).int - (ρ.getD 5 default).int).toNat) le31_1 fun ρ _ hq => ?_
  obtain ⟨v, M, K, g, j, rfl, hj, hv, hM, hK⟩ : prMx ρ := hq
  obtain ⟨v1, v2⟩ := valid_len hv
  by_cases hlt : j < K.length
  · have hhit : mixAny g.N g.C M K j = true → RoundOk F (R L31_1.key) (fun ρ => ((ρ.getD 4 default).int - (ρ.getD 5 default).int).toNat) L31_1 [.l (M.map encQ), .l (K.map encQ), v, .l (K.map encQ), .i (K.length : Int), .i (j : Int), .s g.nm, .b g.dr, .l g.N, .l g.E, .l g.C] [.i 0, .b false, .i (j : Int)] := fun h => by
      refine round_exit (by omega) ?_
      rw [show F L31_1.key = lpMx from rfl, lpMx_eq]
      exact scan_hit hlt h
    have hmiss : mixAny g.N g.C M K j = false → RoundOk F (R L31_1.key) (fun ρ => ((ρ.getD 4 default).int - (ρ.getD 5 default).int).toNat) L31_1 [.l (M.map encQ), .l (K.map encQ), v, .l (K.map encQ), .i (K.length : Int), .i (j : Int), .s g.nm, .b g.dr, .l g.N, .l g.E, .l g.C] [.i (-1), v, .i ((j + 1 : Nat) : Int)] := fun h => by
      refine round_next ⟨⟨v, M, K, g, j + 1, rfl, by omega, hv, hM, hK⟩, ?_, ?_⟩
      · show ((K.length : Int) - ((j + 1 : Nat) : Int)).toNat < ((K.length : Int) - (j : Int)).toNat
        omega
      · show lpMx [.l (M.map encQ), .l (K.map encQ), v, .l (K.map encQ), .i (K.length : Int), .i ((j + 1 : Nat) : Int), .s g.nm, .b g.dr, .l g.N, .l g.E, .l g.C] = lpMx [.l (M.map encQ), .l (K.map encQ), v, .l (K.map encQ), .i (K.length : Int), .i (j : Int), .s g.nm, .b g.dr, .l g.N, .l g.E, .l g.C]
        rw [lpMx_eq, lpMx_eq]
        exact scan_next hlt h
    have hmem := memD_eq (g := g) hv (c := j) (by omega)
    have hp1 : ∀ v : D, prMn [v, .l ((memL g j).map encN), .l (M.map encQ), .i (M.length : Int), .i 0, .i (K.getD j z4).1, .i (K.getD j z4).2.1, .i (K.getD j z4).2.2.1, .i (K.getD j z4).2.2.2] := fun v => ⟨v, memL g j, M, K.getD j z4, 0, rfl, by omega, by omega⟩
    have hlen : (K.take j).length = j := by rw [List.length_take]; omega
    have hp2 : ∀ v : D, prMc [v, .i (j : Int), .l ((K.take j).map encQ), .i ((K.take j).length : Int), .i 0, .s g.nm, .b g.dr, .l g.N, .l g.E, .l g.C, .i (K.getD j z4).1, .i (K.getD j z4).2.1, .i (K.getD j z4).2.2.1, .i (K.getD j z4).2.2.2] := fun v => ⟨v, j, K.take j, K.getD j z4, g, 0, rfl, by omega, hlen, by omega, hv⟩
    simp (disch := omega) only [rt31_1, VT.ok, Nd.holds, X.outs, X.ds, X.d, Op1.ev, Op2.ev, takeD_zero, takeD_cons, List.cons_append, List.nil_append, List.getD_cons_zero, List.getD_cons_succ, D.int_i, D.bool_b, D.lst_l, Int.toNat_natCast, List.length_map, implies_true, true_and, F60, R60, F13101, R13101, F13102, R13102, ↓reduceIte, dle_t, dlt_t, w64', rowQz, encQ, hmem, lpMn_eq, Int.toNat_zero, List.drop_zero, takeQ]
    refine ⟨fun _ => hp1 _, ?_⟩
    rcases scan_any (p := fun w => !(memL g j).contains w && ovQ (M.getD w z4) (K.getD j z4)) (hit := fun j => [D.i 0, .b false, .i (j : Int)]) (miss := fun j => [D.i 1, v, .i (j : Int)]) M.length with ⟨h1, k, _, _, _, h2⟩ | ⟨h1, h2⟩
    · rw [mixN_mem hM] at h1
      rw [h2]
      simp only [takeD_zero, takeD_cons, List.cons_append, List.nil_append, List.getD_cons_zero, List.getD_cons_succ, D.int_i, if_true, show ((0 : Int) == 0) = true from rfl]
      exact hhit (by rw [mixAny, h1]; rfl)
    · rw [mixN_mem hM] at h1
      rw [h2]
      simp only [takeD_zero, takeD_cons, List.cons_append, List.nil_append, List.getD_cons_zero, List.getD_cons_succ, D.int_i, Bool.false_eq_true, if_false, show ((1 : Int) == 0) = false from rfl, lpMc_eq]
      refine ⟨fun _ => hp2 _, ?_⟩
      rcases scan_any (p := fun k => (!(around g.C (cP g.C j)).contains (k : Int) && !(around g.C (cP g.C k)).contains (j : Int)) && ovQ ((K.take j).getD k z4) (K.getD j z4)) (hit := fun j => [D.i 0, .b false, .i (j : Int)]) (miss := fun j => [D.i 1, v, .i (j : Int)]) (K.take j).length with ⟨h3, k, _, _, _, h4⟩ | ⟨h3, h4⟩
      · rw [mixC_take hv hK hlt] at h3
        rw [h4]
        simp only [takeD_zero, takeD_cons, List.getD_cons_zero, List.getD_cons_succ, D.int_i, if_true, show ((0 : Int) == 0) = true from rfl]
        exact hhit (by rw [mixAny, h3, Bool.or_true])
      · rw [mixC_take hv hK hlt] at h3
        rw [h4]
        simp only [takeD_zero, takeD_cons, List.getD_cons_zero, List.getD_cons_succ, D.int_i, Bool.false_eq_true, if_false, show ((1 : Int) == 0) = false from rfl]
        exact hmiss (by rw [mixAny, h1, h3]; rfl)
  · have hj : j = K.length := by omega
    subst hj
    simp (disch := omega) only [rt31_1, VT.ok, X.ds, X.d, Op2.ev, List.getD_cons_zero, List.getD_cons_succ, D.int_i, D.bool_b, Bool.false_eq_true, ↓reduceIte, dlt_f]
    refine round_exit (by omega) ?_
    rw [show F L31_1.key = lpMx from rfl, lpMx_eq]
    exact scan_end
theorem apD_eq (g : Gd) (M K : List Bx) : apD [.s g.nm, .b g.dr, .l g.N, .l g.E, .l g.C, .l (M.map encQ), .l (K.map encQ)] = [.b (!overB g M K)] := by
  show [D.b (!overB g ((M.map encQ).map decQ) ((K.map encQ).map decQ))] = _
  rw [map_decQ, map_decQ]
theorem m31 : Meets Try.prog 31 S31 (R 31) (F 31) := by
  refine meets_of_vt (pre := R) (Φ := F) mixed (sgAt_all (P := Try.prog) (pre := R) (Φ := F) (l := sg31) (List.forall_mem_cons.2 ⟨Meets.at (pre := R) (Φ := F) m25, List.forall_mem_cons.2 ⟨Meets.at (pre := R) (Φ := F) m60, List.forall_mem_cons.2 ⟨Meets.at (pre := R) (Φ := F) m61, List.forall_mem_cons.2 ⟨Meets.at (pre := R) (Φ := F) m18, List.forall_mem_cons.2 ⟨Meets.at (pre := R) (Φ := F) m62, (fun _ h => nomatch h)⟩⟩⟩⟩⟩)) Try.func31 b31 n31 (loops_n 4 k31 fun k hk => match k, hk with | 0, _ => loop_this lf31_0 loopM31_0 | 1, _ => loop_this lf31_1 loopM31_1 | 2, _ => loop_this lf31_2 loopM31_2 | 3, _ => loop_this lf31_3 loopM31_3) e31 fun ds _ hq => ?_
  obtain ⟨g, M, K, rfl, hv, hM, hK⟩ : apP ds := hq
  obtain ⟨v1, v2⟩ := valid_len hv
  have e1 : lpV3 [.l (M.map encQ), .b false, .l (M.map encQ), .i (M.length : Int), .i 0] = scanN (ovN M) (fun j => [.i 0, .b false, .i (j : Int)]) (fun j => [.i 1, .b false, .i (j : Int)]) M.length 0 := by
    simp only [lpV3, map_decQ, List.length_map, scB, Int.toNat_zero, Nat.sub_zero]
  have e2 := lpMx_eq (.b false) M K g 0
  have p1 : prV3 [.l (M.map encQ), .b false, .l (M.map encQ), .i (M.length : Int), .i 0] := ⟨_, M, 0, rfl, by omega, by rw [maxLen_val]; omega⟩
  have p2 : prMx [.l (M.map encQ), .l (K.map encQ), .b false, .l (K.map encQ), .i (K.length : Int), .i 0, .s g.nm, .b g.dr, .l g.N, .l g.E, .l g.C] := ⟨_, M, K, g, 0, rfl, by omega, hv, hM, hK⟩
  simp only [Int.natCast_zero, Nat.sub_zero] at e2
  simp only [vt31, VT.ok, Nd.holds, X.outs, X.ds, X.d, Op1.ev, Op2.ev, List.cons_append, List.nil_append, List.getD_cons_zero, List.getD_cons_succ, D.int_i, D.bool_b, D.lst_l, List.length_map, F13100, R13100, F13103, R13103, F31, e1, apD_eq]
  refine ⟨fun _ => p1, ?_⟩
  rcases scan_any (p := ovN M) (hit := fun j => [D.i 0, .b false, .i (j : Int)]) (miss := fun j => [D.i 1, .b false, .i (j : Int)]) M.length with ⟨k1, j, _, _, _, k2⟩ | ⟨k1, k2⟩
  · rw [k2, overB, k1]; rfl
  · rw [k2]
    simp only [takeD_zero, takeD_cons, List.cons_append, List.nil_append, List.getD_cons_zero, List.getD_cons_succ, D.int_i, Bool.false_eq_true, if_false, show ((1 : Int) == 0) = false from rfl, e2]
    refine ⟨fun _ => p2, ?_⟩
    rcases scan_any (p := mixAny g.N g.C M K) (hit := fun j => [D.i 0, .b false, .i (j : Int)]) (miss := fun j => [D.i 1, .b false, .i (j : Int)]) K.length with ⟨k3, j, _, _, _, k4⟩ | ⟨k3, k4⟩
    · rw [k4, overB, k1, k3]; rfl
    · rw [k4, overB, k1, k3]; rfl
theorem badL_ok {B : List Bx} (h : badL B = false) : ∀ b ∈ B, bxQ b = true := fun b hb => by
  obtain ⟨i, hi, rfl⟩ := List.getElem_of_mem hb
  have := anyN_false.1 h i hi
  simpa [List.getD, hi] using this
theorem loopM11_0 : LoopMeets Try.prog F (R L11_0.key) L11_0 lb11_0 := by
  refine loop_meets (pre := R) mixed (sgAt_all (P := Try.prog) (pre := R) (Φ := F) (l := sg11) (List.forall_mem_cons.2 ⟨Meets.at (pre := R) (Φ := F) m26, List.forall_mem_cons.2 ⟨Meets.at (pre := R) (Φ := F) m28, List.forall_mem_cons.2 ⟨Meets.at (pre := R) (Φ := F) m25, List.forall_mem_cons.2 ⟨Meets.at (pre := R) (Φ := F) m29, List.forall_mem_cons.2 ⟨Meets.at (pre := R) (Φ := F) m30, List.forall_mem_cons.2 ⟨Meets.at (pre := R) (Φ := F) m31, (fun _ h => nomatch h)⟩⟩⟩⟩⟩⟩)) (loops_n 0 lk11_0 fun k hk => by omega) L11_0 (fun ρ => ((ρ.getD 2 default).int - (ρ.getD 3 default).int).toNat) le11_0 fun ρ _ hq => ?_
  obtain ⟨v, M, g, j, rfl, hj, hN, h64, hs⟩ : prSs ρ := hq
  by_cases hlt : j < M.length
  · have he := fnE_eq (M.getD j z4) (hs _ (getD_mem z4 hlt))
    simp (disch := omega) only [rt11_0, VT.ok, Nd.holds, X.outs, X.ds, X.d, Op1.ev, Op2.ev, takeD_zero, takeD_cons, List.cons_append, List.nil_append, List.getD_cons_zero, List.getD_cons_succ, D.int_i, D.bool_b, D.lst_l, ite_b, ite_and, Int.toNat_natCast, List.length_map, implies_true, true_and, F29, R29, ↓reduceIte, dle_t, dlt_t, w64', rowQz, encQ, he, Bool.not_and]
    show if badS g.N M j = true then _ else _
    cases hb : badS g.N M j
    · simp only [Bool.false_eq_true, if_false]
      refine round_next ⟨⟨v, M, g, j + 1, rfl, by omega, hN, h64, hs⟩, ?_, ?_⟩
      · show ((M.length : Int) - ((j + 1 : Nat) : Int)).toNat < ((M.length : Int) - (j : Int)).toNat
        omega
      · show lpSs [v, .l (M.map encQ), .i (M.length : Int), .i ((j + 1 : Nat) : Int), .s g.nm, .b g.dr, .l g.N, .l g.E, .l g.C] = lpSs [v, .l (M.map encQ), .i (M.length : Int), .i (j : Int), .s g.nm, .b g.dr, .l g.N, .l g.E, .l g.C]
        simp only [lpSs, map_decQ, List.length_map, scB, Int.toNat_natCast]
        exact scan_next hlt hb
    · simp only [if_true]
      refine round_exit (by omega) ?_
      show lpSs [v, .l (M.map encQ), .i (M.length : Int), .i (j : Int), .s g.nm, .b g.dr, .l g.N, .l g.E, .l g.C] = _
      simp only [lpSs, map_decQ, List.length_map, scB, Int.toNat_natCast]
      exact scan_hit hlt hb
  · have hj' : j = M.length := by omega
    subst hj'
    simp (disch := omega) only [rt11_0, VT.ok, X.ds, X.d, Op2.ev, List.getD_cons_zero, List.getD_cons_succ, D.int_i, D.bool_b, Bool.false_eq_true, ↓reduceIte, dlt_f]
    refine round_exit (by omega) ?_
    show lpSs [v, .l (M.map encQ), .i (M.length : Int), .i (M.length : Int), .s g.nm, .b g.dr, .l g.N, .l g.E, .l g.C] = _
    simp only [lpSs, map_decQ, List.length_map, scB, Int.toNat_natCast]
    exact scan_end
theorem chD_eq (g : Gd) (o : Od) (M K : List Bx) : chD [.s g.nm, .b g.dr, .l g.N, .l g.E, .l g.C, .i o.md, .i o.ns, .i o.rs, .i o.m, .i o.rd, .l (M.map encQ), .l (K.map encQ)] = [.i (chkE g o M K)] := by
  show [D.i (chkE g o ((M.map encQ).map decQ) ((K.map encQ).map decQ))] = _
  rw [map_decQ, map_decQ]
theorem lpSs_eq (M : List Bx) (g : Gd) : lpSs [.i 0, .l (M.map encQ), .i (M.length : Int), .i 0, .s g.nm, .b g.dr, .l g.N, .l g.E, .l g.C] = scanN (badS g.N M) (fun j => [.i 0, .i 13, .i (j : Int)]) (fun j => [.i 1, .i 0, .i (j : Int)]) M.length 0 := by
  simp only [lpSs, map_decQ, List.length_map, scB, Int.toNat_zero, Nat.sub_zero]
theorem chkE_err {g : Gd} {o : Od} {M K : List Bx} (h : ¬ validE g = 0) : chkE g o M K = validE g := by rw [chkE, if_neg h]
theorem lenB {a b : Nat} : (((a : Int) == (b : Int))) = (a == b) := by
  rw [Bool.eq_iff_iff]; simp only [beq_iff_eq]; omega
theorem chkE_len {g : Gd} {o : Od} {M K : List Bx} (h1 : validE g = 0) (h2 : o.ok = true) (h : ((!(M.length == g.N.length) || !(K.length == g.C.length)) || (badL M || badL K)) = true) : chkE g o M K = 1 := by
  rw [chkE, if_pos h1, if_pos h2, if_pos h]
theorem m11 : Meets Try.prog 11 S11 (R 11) (F 11) := by
  refine meets_of_vt (pre := R) (Φ := F) mixed (sgAt_all (P := Try.prog) (pre := R) (Φ := F) (l := sg11) (List.forall_mem_cons.2 ⟨Meets.at (pre := R) (Φ := F) m26, List.forall_mem_cons.2 ⟨Meets.at (pre := R) (Φ := F) m28, List.forall_mem_cons.2 ⟨Meets.at (pre := R) (Φ := F) m25, List.forall_mem_cons.2 ⟨Meets.at (pre := R) (Φ := F) m29, List.forall_mem_cons.2 ⟨Meets.at (pre := R) (Φ := F) m30, List.forall_mem_cons.2 ⟨Meets.at (pre := R) (Φ := F) m31, (fun _ h => nomatch h)⟩⟩⟩⟩⟩⟩)) Try.func11 b11 n11 (loops_n 1 k11 fun k hk => match k, hk with | 0, _ => loop_this lf11_0 loopM11_0) e11 fun ds hf _ => ?_
  obtain ⟨g, o, M, ds', rfl, h0, hm, _⟩ := fitsGO hf.flat
  obtain ⟨x, rfl, hx⟩ := fits1 h0
  obtain ⟨K, rfl, hk, _⟩ := slQ hx
  have hv : validD [.s g.nm, .b g.dr, .l g.N, .l g.E, .l g.C] = [.i (validE g)] := rfl
  have ho := fn28_eq o.md o.ns o.rs o.m o.rd
  obtain ⟨cM1, cM2⟩ := cfBad (f := 27) (.inr rfl) M
  obtain ⟨cK1, cK2⟩ := cfBad (f := 27) (.inr rfl) K
  simp only [vt11, VT.ok, Nd.holds, X.outs, X.ds, X.d, Op1.ev, Op2.ev, takeD_zero, takeD_cons, List.cons_append, List.nil_append, List.getD_cons_zero, List.getD_cons_succ, D.int_i, D.bool_b, D.lst_l, List.length_map, implies_true, true_and, F26, R26, F28, R28, F25, R25, F11100, R11100, F30, R30, F31, R31, F11, hv, ho, chD_eq, cM2, cK2, lenB]
  by_cases h1 : validE g = 0
  · obtain ⟨v1, v2⟩ := valid_len h1
    obtain ⟨_, _, v3, v4⟩ := valid_okV h1
    have hb : (!(validE g == 0)) = false := by simp [h1]
    simp only [hb, Bool.false_eq_true, if_false]
    by_cases h2 : o.ok = true
    · have h2' := Od.ok_iff.1 h2
      simp only [show (Od.ok ⟨o.md, o.ns, o.rs, o.m, o.rd⟩) = true from h2, Bool.not_true, Bool.false_eq_true, if_false]
      by_cases h3 : (M.length == g.N.length) = true
      · by_cases h4 : (K.length == g.C.length) = true
        · simp only [h3, h4, Bool.not_true, Bool.false_eq_true, if_false]
          refine ⟨fun _ => cM1, ?_⟩
          cases h5 : badL M
          · simp only [Bool.false_eq_true, if_false]
            refine ⟨fun _ => cK1, ?_⟩
            cases h6 : badL K
            · have hM : M.length = g.N.length := by simpa using h3
              have hK : K.length = g.C.length := by simpa using h4
              have hE : chkE g o M K = if anyN (badS g.N M) M.length = true then 13 else if withinB g o.m M K = true then (if overB g M K = true then 14 else 0) else 3 := by
                rw [chkE, if_pos h1, if_pos h2, if_neg (by rw [h3, h4, h5, h6]; decide)]
              have p1 : prSs [.i 0, .l (M.map encQ), .i (M.length : Int), .i 0, .s g.nm, .b g.dr, .l g.N, .l g.E, .l g.C] := ⟨.i 0, M, g, 0, rfl, by omega, by omega, by omega, fun q hq => smQ_of (badL_ok h5 q hq)⟩
              have p2 : withP [.s g.nm, .b g.dr, .l g.N, .l g.E, .l g.C, .i o.m, .l (M.map encQ), .l (K.map encQ)] := ⟨g, o.m, M, K, rfl, by omega, by omega, by omega, by omega, fun v hv => by have := v4 v hv; rw [hK]; exact this, fun c hc => ⟨(v3 c hc).1, Int.lt_trans (v3 c hc).2 (by omega)⟩, by omega, by omega⟩
              have p3 : apP [.s g.nm, .b g.dr, .l g.N, .l g.E, .l g.C, .l (M.map encQ), .l (K.map encQ)] := ⟨g, M, K, rfl, h1, hM, hK⟩
              simp only [Bool.false_eq_true, if_false, lpSs_eq]
              refine ⟨fun _ => p1, ?_⟩
              rw [hE]
              rcases scan_any (p := badS g.N M) (hit := fun j => [D.i 0, .i 13, .i (j : Int)]) (miss := fun j => [D.i 1, .i 0, .i (j : Int)]) M.length with ⟨k1, j, _, _, _, k2⟩ | ⟨k1, k2⟩
              · rw [k2, if_pos k1]
                simp only [takeD_zero, takeD_cons, List.cons_append, List.nil_append, List.getD_cons_zero, List.getD_cons_succ, D.int_i, if_true, takeD1_0, show ((0 : Int) == 0) = true from rfl]
              · rw [k2, if_neg (c := anyN (badS g.N M) M.length = true) (by rw [k1]; decide)]
                simp only [takeD_zero, takeD_cons, List.cons_append, List.nil_append, List.getD_cons_zero, List.getD_cons_succ, D.int_i, D.bool_b, Bool.false_eq_true, if_false, show ((1 : Int) == 0) = false from rfl, withD_eq, apD_eq]
                refine ⟨fun _ => p2, ?_⟩
                cases h7 : withinB g o.m M K
                · simp only [Bool.not_false, if_true, Bool.false_eq_true, if_false]
                · simp only [Bool.not_true, Bool.false_eq_true, if_false, if_true]
                  refine ⟨fun _ => p3, ?_⟩
                  cases h8 : overB g M K <;> rfl
            · simp only [if_true]
              rw [chkE_len h1 h2 (by rw [h6]; simp)]
          · simp only [if_true]
            rw [chkE_len h1 h2 (by rw [h5]; simp)]
        · have h4' := Bool.eq_false_iff.2 h4
          simp only [h3, h4', Bool.not_true, Bool.not_false, Bool.false_eq_true, if_false, if_true]
          rw [chkE_len h1 h2 (by rw [h4']; simp)]
      · have h3' := Bool.eq_false_iff.2 h3
        simp only [h3', Bool.not_false, if_true]
        rw [chkE_len h1 h2 (by rw [h3']; simp)]
    · have h2' : Od.ok ⟨o.md, o.ns, o.rs, o.m, o.rd⟩ = false := Bool.eq_false_iff.2 h2
      simp only [h2', Bool.not_false, if_true]
      rw [chkE, if_pos h1, if_neg h2]
  · have hb : (!(validE g == 0)) = true := by simp [h1]
    rw [if_pos hb, chkE_err h1]
end Go.Proofs.Ytindllmeeckfcaa.rv
namespace Go.Proofs.Ytindllmeeckfcaa.rv
set_option maxRecDepth 10000
open Go.RV
theorem loopM37_0 : LoopMeets Try.prog F (R L37_0.key) L37_0 lb37_0 := by
  refine loop_meets (pre := R) mixed (sgAt_all (P := Try.prog) (pre := R) (Φ := F) (l := sg37) ((fun _ h => nomatch h))) (loops_n 0 lk37_0 fun k hk => by omega) L37_0 (fun ρ => (((ρ.getD 0 default).lst.length : Int) - (ρ.getD 3 default).int).toNat) le37_0 fun ρ _ hq => ?_
  obtain ⟨xs, ys, v, j, rfl, hj, hm, hl⟩ : prS4 ρ := hq
  rw [maxLen_val] at hm
  by_cases hlt : j < xs.length
  · simp (disch := omega) only [rt37_0, VT.ok, Nd.holds, X.ds, X.d, Op1.ev, Op2.ev, List.getD_cons_zero, List.getD_cons_succ, D.int_i, D.bool_b, D.lst_l, ite_b, ite_and, Int.toNat_natCast, implies_true, true_and, ↓reduceIte, dle_t, dlt_t, w64']
    show if (!same4 (el xs j) (el ys j)) = true then _ else _
    cases hb : (!same4 (el xs j) (el ys j))
    · simp only [Bool.false_eq_true, if_false]
      refine round_next ⟨⟨xs, ys, v, j + 1, rfl, by omega, hm, hl⟩, ?_, ?_⟩
      · show ((xs.length : Int) - ((j + 1 : Nat) : Int)).toNat < ((xs.length : Int) - (j : Int)).toNat
        omega
      · show lpS4 [.l xs, .l ys, v, .i ((j + 1 : Nat) : Int)] = lpS4 [.l xs, .l ys, v, .i (j : Int)]
        simp only [lpS4, scB, Int.toNat_natCast]
        exact scan_next hlt hb
    · simp only [if_true]
      refine round_exit (by omega) ?_
      show lpS4 [.l xs, .l ys, v, .i (j : Int)] = _
      simp only [lpS4, scB, Int.toNat_natCast]
      exact scan_hit hlt hb
  · have hj' : j = xs.length := by omega
    subst hj'
    simp (disch := omega) only [rt37_0, VT.ok, X.ds, X.d, Op1.ev, Op2.ev, List.getD_cons_zero, List.getD_cons_succ, D.int_i, D.bool_b, D.lst_l, Bool.false_eq_true, ↓reduceIte, dlt_f]
    refine round_exit (by omega) ?_
    show lpS4 [.l xs, .l ys, v, .i (xs.length : Int)] = _
    simp only [lpS4, scB, Int.toNat_natCast]
    exact scan_end
theorem sameLD_eq (xs ys : List (List D)) : sameLD [.l xs, .l ys] = [.b (eqR same4 xs ys)] := rfl
theorem lpS4_eq (xs ys : List (List D)) : lpS4 [.l xs, .l ys, .b false, .i 0] = scanN (fun j => !same4 (el xs j) (el ys j)) (fun j => [.i 0, .b false, .i (j : Int)]) (fun j => [.i 1, .b false, .i (j : Int)]) xs.length 0 := by
  simp only [lpS4, scB, Int.toNat_zero, Nat.sub_zero]
theorem m37 : Meets Try.prog 37 S37 (R 37) (F 37) := by
  refine meets_of_vt (pre := R) (Φ := F) mixed (sgAt_all (P := Try.prog) (pre := R) (Φ := F) (l := sg37) ((fun _ h => nomatch h))) Try.func37 b37 n37 (loops_n 1 k37 fun k hk => match k, hk with | 0, _ => loop_this lf37_0 loopM37_0) e37 fun ds hf _ => ?_
  obtain ⟨x, y, rfl, hx, hy⟩ := fits2 hf.flat
  obtain ⟨xs, rfl, hm, _⟩ := wf_sl hx
  obtain ⟨ys, rfl, hm', _⟩ := wf_sl hy
  by_cases hl : ys.length = xs.length
  · have hpre : prS4 [.l xs, .l ys, .b false, .i 0] := ⟨xs, ys, _, 0, rfl, by omega, hm, hl⟩
    simp (disch := omega) only [vt37, VT.ok, Nd.holds, X.outs, X.ds, X.d, Op1.ev, Op2.ev, List.cons_append, List.nil_append, List.getD_cons_zero, List.getD_cons_succ, D.int_i, D.bool_b, D.lst_l, Bool.false_eq_true, F13700, R13700, F37, ↓reduceIte, beq_t, Bool.not_true, lpS4_eq, sameLD_eq]
    refine ⟨fun _ => hpre, ?_⟩
    rcases scan_any (p := fun j => !same4 (el xs j) (el ys j)) (hit := fun j => [D.i 0, .b false, .i (j : Int)]) (miss := fun j => [D.i 1, .b false, .i (j : Int)]) xs.length with ⟨k1, j, _, _, _, k2⟩ | ⟨k1, k2⟩
    · rw [k2, eqR, k1, Bool.not_true, Bool.and_false]; rfl
    · rw [k2, eqR, k1, show ((xs.length : Int) == (ys.length : Int)) = true from beq_t (by omega)]; rfl
  · simp (disch := omega) only [vt37, VT.ok, X.ds, X.d, Op1.ev, Op2.ev, List.getD_cons_zero, List.getD_cons_succ, D.int_i, D.bool_b, D.lst_l, F37, ↓reduceIte, beq_f, Bool.not_false, sameLD_eq]
    rw [eqR, show ((xs.length : Int) == (ys.length : Int)) = false from beq_f (by omega), Bool.false_and]
theorem m14 : Meets Try.prog 14 S14 (R 14) (F 14) := by
  refine meets_of_vt (pre := R) (Φ := F) mixed (sgAt_all (P := Try.prog) (pre := R) (Φ := F) (l := sg14) (List.forall_mem_cons.2 ⟨Meets.at (pre := R) (Φ := F) m37, (fun _ h => nomatch h)⟩)) Try.func14 b14 n14 (loops_n 0 k14 fun k hk => by omega) e14 fun ds hf _ => ?_
  obtain ⟨x, y, rfl, hx, hy⟩ := fits2 hf.flat
  obtain ⟨xs, rfl, hm, _⟩ := wf_sl hx
  obtain ⟨ys, rfl, hm', _⟩ := wf_sl hy
  simp only [vt14, VT.ok, Nd.holds, X.outs, X.ds, X.d, takeD_zero, takeD_cons, List.cons_append, List.nil_append, List.getD_cons_zero, List.getD_cons_succ, D.bool_b, implies_true, and_true, F37, R37, F14, sameLD_eq]
theorem same4_refl (x : List D) : same4 x x = true := by simp [same4]
theorem loopM8_1 : LoopMeets Try.prog F (R L8_1.key) L8_1 lb8_1 := by
  refine loop_meets (pre := R) mixed (sgAt_all (P := Try.prog) (pre := R) (Φ := F) (l := sg8) ((fun _ h => nomatch h))) (loops_n 0 lk8_1 fun k hk => by omega) L8_1 (fun ρ => (((ρ.getD 7 default).lst.length : Int) - (ρ.getD 1 default).int).toNat) le8_1 fun ρ _ hq => ?_
  obtain ⟨v, a, b, c, d, e, xs, j, rfl, hj, hm⟩ : prF1 ρ := hq
  by_cases hlt : j < xs.length
  · simp (disch := omega) only [rt8_1, VT.ok, Nd.holds, X.ds, X.d, Op1.ev, Op2.ev, List.getD_cons_zero, List.getD_cons_succ, D.int_i, D.bool_b, D.lst_l, Int.toNat_natCast, implies_true, true_and, ↓reduceIte, dle_t, dlt_t, w64']
    show if fwPt xs j = true then _ else _
    cases hb : fwPt xs j
    · simp only [Bool.false_eq_true, if_false]
      refine round_next ⟨⟨v, a, b, c, d, e, xs, j + 1, rfl, by omega, hm⟩, ?_, ?_⟩
      · show ((xs.length : Int) - ((j + 1 : Nat) : Int)).toNat < ((xs.length : Int) - (j : Int)).toNat
        omega
      · show lpF1 [v, .i ((j + 1 : Nat) : Int), a, b, c, d, e, .l xs] = lpF1 [v, .i (j : Int), a, b, c, d, e, .l xs]
        simp only [lpF1, scB, Int.toNat_natCast]
        exact scan_next hlt hb
    · simp only [if_true]
      refine round_exit (by omega) ?_
      show lpF1 [v, .i (j : Int), a, b, c, d, e, .l xs] = _
      simp only [lpF1, scB, Int.toNat_natCast]
      exact scan_hit hlt hb
  · have hj' : j = xs.length := by omega
    subst hj'
    simp (disch := omega) only [rt8_1, VT.ok, X.ds, X.d, Op1.ev, Op2.ev, List.getD_cons_zero, List.getD_cons_succ, D.int_i, D.bool_b, D.lst_l, Bool.false_eq_true, ↓reduceIte, dlt_f]
    refine round_exit (by omega) ?_
    show lpF1 [v, .i (xs.length : Int), a, b, c, d, e, .l xs] = _
    simp only [lpF1, scB, Int.toNat_natCast]
    exact scan_end
theorem loopM8_2 : LoopMeets Try.prog F (R L8_2.key) L8_2 lb8_2 := by
  refine loop_meets (pre := R) mixed (sgAt_all (P := Try.prog) (pre := R) (Φ := F) (l := sg8) ((fun _ h => nomatch h))) (loops_n 0 lk8_2 fun k hk => by omega) L8_2 (fun ρ => (((ρ.getD 5 default).lst.length : Int) - (ρ.getD 1 default).int).toNat) le8_2 fun ρ _ hq => ?_
  obtain ⟨v, g, j, rfl, hj, hm⟩ : prF2 ρ := hq
  by_cases hlt : j < g.E.length
  · simp (disch := omega) only [rt8_2, VT.ok, Nd.holds, X.ds, X.d, Op1.ev, Op2.ev, List.getD_cons_zero, List.getD_cons_succ, D.int_i, D.bool_b, D.lst_l, ite_b, ite_or, Int.toNat_natCast, implies_true, true_and, ↓reduceIte, dle_t, dlt_t, w64']
    show if fwEd g.E j = true then _ else _
    cases hb : fwEd g.E j
    · simp only [Bool.false_eq_true, if_false]
      refine round_next ⟨⟨v, g, j + 1, rfl, by omega, hm⟩, ?_, ?_⟩
      · show ((g.E.length : Int) - ((j + 1 : Nat) : Int)).toNat < ((g.E.length : Int) - (j : Int)).toNat
        omega
      · show lpF2 [v, .i ((j + 1 : Nat) : Int), .s g.nm, .b g.dr, .l g.N, .l g.E, .l g.C] = lpF2 [v, .i (j : Int), .s g.nm, .b g.dr, .l g.N, .l g.E, .l g.C]
        simp only [lpF2, scB, Int.toNat_natCast]
        exact scan_next hlt hb
    · simp only [if_true]
      refine round_exit (by omega) ?_
      show lpF2 [v, .i (j : Int), .s g.nm, .b g.dr, .l g.N, .l g.E, .l g.C] = _
      simp only [lpF2, scB, Int.toNat_natCast]
      exact scan_hit hlt hb
  · have hj' : j = g.E.length := by omega
    subst hj'
    simp (disch := omega) only [rt8_2, VT.ok, X.ds, X.d, Op1.ev, Op2.ev, List.getD_cons_zero, List.getD_cons_succ, D.int_i, D.bool_b, D.lst_l, Bool.false_eq_true, ↓reduceIte, dlt_f]
    refine round_exit (by omega) ?_
    show lpF2 [v, .i (g.E.length : Int), .s g.nm, .b g.dr, .l g.N, .l g.E, .l g.C] = _
    simp only [lpF2, scB, Int.toNat_natCast]
    exact scan_end
theorem loopM8_3 : LoopMeets Try.prog F (R L8_3.key) L8_3 lb8_3 := by
  refine loop_meets (pre := R) mixed (sgAt_all (P := Try.prog) (pre := R) (Φ := F) (l := sg8) ((fun _ h => nomatch h))) (loops_n 0 lk8_3 fun k hk => by omega) L8_3 (fun ρ => (((ρ.getD 6 default).lst.length : Int) - (ρ.getD 1 default).int).toNat) le8_3 fun ρ _ hq => ?_
  obtain ⟨v, g, j, rfl, hj, hm⟩ : prF3 ρ := hq
  by_cases hlt : j < g.C.length
  · simp (disch := omega) only [rt8_3, VT.ok, Nd.holds, X.ds, X.d, Op1.ev, Op2.ev, List.getD_cons_zero, List.getD_cons_succ, D.int_i, D.bool_b, D.lst_l, Int.toNat_natCast, implies_true, true_and, ↓reduceIte, dle_t, dlt_t, w64']
    show if fwPt g.C j = true then _ else _
    cases hb : fwPt g.C j
    · simp only [Bool.false_eq_true, if_false]
      refine round_next ⟨⟨v, g, j + 1, rfl, by omega, hm⟩, ?_, ?_⟩
      · show ((g.C.length : Int) - ((j + 1 : Nat) : Int)).toNat < ((g.C.length : Int) - (j : Int)).toNat
        omega
      · show lpF3 [v, .i ((j + 1 : Nat) : Int), .s g.nm, .b g.dr, .l g.N, .l g.E, .l g.C] = lpF3 [v, .i (j : Int), .s g.nm, .b g.dr, .l g.N, .l g.E, .l g.C]
        simp only [lpF3, scB, Int.toNat_natCast]
        exact scan_next hlt hb
    · simp only [if_true]
      refine round_exit (by omega) ?_
      show lpF3 [v, .i (j : Int), .s g.nm, .b g.dr, .l g.N, .l g.E, .l g.C] = _
      simp only [lpF3, scB, Int.toNat_natCast]
      exact scan_hit hlt hb
  · have hj' : j = g.C.length := by omega
    subst hj'
    simp (disch := omega) only [rt8_3, VT.ok, X.ds, X.d, Op1.ev, Op2.ev, List.getD_cons_zero, List.getD_cons_succ, D.int_i, D.bool_b, D.lst_l, Bool.false_eq_true, ↓reduceIte, dlt_f]
    refine round_exit (by omega) ?_
    show lpF3 [v, .i (g.C.length : Int), .s g.nm, .b g.dr, .l g.N, .l g.E, .l g.C] = _
    simp only [lpF3, scB, Int.toNat_natCast]
    exact scan_end
theorem lpF0_eq (v : D) (g : Gd) (j : Nat) : lpF0 [v, .i (j : Int), .s g.nm, .b g.dr, .l g.N, .l g.E, .l g.C] = scanN (fwNd g.N) (fun j => [.i 0, .b false, .i (j : Int)]) (fun j => [.i 1, v, .i (j : Int)]) (g.N.length - j) j := by
  simp only [lpF0, scB, Int.toNat_natCast]
theorem lpF1_eq (v a b c d e : D) (xs : List (List D)) : lpF1 [v, .i 0, a, b, c, d, e, .l xs] = scanN (fwPt xs) (fun j => [.i 0, .b false, .i (j : Int)]) (fun j => [.i 1, v, .i (j : Int)]) xs.length 0 := by
  simp only [lpF1, scB, Int.toNat_zero, Nat.sub_zero]
theorem lpF2_eq (v : D) (g : Gd) : lpF2 [v, .i 0, .s g.nm, .b g.dr, .l g.N, .l g.E, .l g.C] = scanN (fwEd g.E) (fun j => [.i 0, .b false, .i (j : Int)]) (fun j => [.i 1, v, .i (j : Int)]) g.E.length 0 := by
  simp only [lpF2, scB, Int.toNat_zero, Nat.sub_zero]
theorem lpF3_eq (v : D) (g : Gd) : lpF3 [v, .i 0, .s g.nm, .b g.dr, .l g.N, .l g.E, .l g.C] = scanN (fwPt g.C) (fun j => [.i 0, .b false, .i (j : Int)]) (fun j => [.i 1, v, .i (j : Int)]) g.C.length 0 := by
  simp only [lpF3, scB, Int.toNat_zero, Nat.sub_zero]
theorem loopM8_0 : LoopMeets Try.prog F (R L8_0.key) L8_0 lb8_0 := by
  refine loop_meets (pre := R) mixed (sgAt_all (P := Try.prog) (pre := R) (Φ := F) (l := sg8) ((fun _ h => nomatch h))) (loops_n 1 lk8_0 fun k hk => match k, hk with | 0, _ => by rw [li8_0_0]; exact loop_this lf8_1 loopM8_1) L8_0 (fun ρ => (((ρ.getD 4 default).lst.length : Int) - (ρ.getD 1 default).int).toNat) le8_0 fun ρ _ hq => ?_
  obtain ⟨v, g, j, rfl, hj, h64, hN⟩ : prF0 ρ := hq
  by_cases hlt : j < g.N.length
  · obtain ⟨_, xs, hx⟩ := hN j hlt
    have hx' : (g.N.getD j []).getD 5 default = .l xs := hx
    have hcl : cL (el g.N j) 5 = xs := by simp only [cL]; rw [hx]; rfl
    have hhit : fwNd g.N j = true → RoundOk F (R L8_0.key) (fun ρ => (((ρ.getD 4 default).lst.length : Int) - (ρ.getD 1 default).int).toNat) L8_0 [v, .i (j : Int), .s g.nm, .b g.dr, .l g.N, .l g.E, .l g.C] [.i 0, .b false, .i (j : Int)] := fun h => by
      refine round_exit (by omega) ?_
      rw [show F L8_0.key = lpF0 from rfl, lpF0_eq]
      exact scan_hit hlt h
    have hmiss : fwNd g.N j = false → RoundOk F (R L8_0.key) (fun ρ => (((ρ.getD 4 default).lst.length : Int) - (ρ.getD 1 default).int).toNat) L8_0 [v, .i (j : Int), .s g.nm, .b g.dr, .l g.N, .l g.E, .l g.C] [.i (-1), v, .i ((j + 1 : Nat) : Int)] := fun h => by
      refine round_next ⟨⟨v, g, j + 1, rfl, by omega, h64, hN⟩, ?_, ?_⟩
      · show ((g.N.length : Int) - ((j + 1 : Nat) : Int)).toNat < ((g.N.length : Int) - (j : Int)).toNat
        omega
      · show lpF0 [v, .i ((j + 1 : Nat) : Int), .s g.nm, .b g.dr, .l g.N, .l g.E, .l g.C] = lpF0 [v, .i (j : Int), .s g.nm, .b g.dr, .l g.N, .l g.E, .l g.C]
        rw [lpF0_eq, lpF0_eq]
        exact scan_next hlt h
    have hfw : fwNd g.N j = (((decide (40 < ((cS (el g.N j) 0).size : Int)) || decide (80 < ((cS (el g.N j) 1).size : Int))) || decide (9 < (xs.length : Int))) || anyN (fwPt xs) xs.length) := by
      unfold fwNd; rw [hcl]
    simp (disch := omega) only [rt8_0, VT.ok, Nd.holds, X.outs, X.ds, X.d, Op1.ev, Op2.ev, List.cons_append, List.nil_append, List.getD_cons_zero, List.getD_cons_succ, D.int_i, D.bool_b, D.lst_l, ite_b, ite_or, Int.toNat_natCast, implies_true, true_and, F10800, R10800, ↓reduceIte, dle_t, dlt_t, w64', hx', lpF1_eq]
    show if ((decide (40 < ((cS (el g.N j) 0).size : Int)) || decide (80 < ((cS (el g.N j) 1).size : Int))) || decide (9 < (xs.length : Int))) = true then _ else _
    cases hA : ((decide (40 < ((cS (el g.N j) 0).size : Int)) || decide (80 < ((cS (el g.N j) 1).size : Int))) || decide (9 < (xs.length : Int)))
    · have h9 : xs.length ≤ 9 := by
        simp only [Bool.or_eq_false_iff, decide_eq_false_iff_not] at hA
        omega
      rw [if_neg (by decide)]
      refine ⟨fun _ => ⟨_, _, _, _, _, _, xs, 0, rfl, by omega, h9⟩, ?_⟩
      rcases scan_any (p := fwPt xs) (hit := fun j => [D.i 0, .b false, .i (j : Int)]) (miss := fun j => [D.i 1, v, .i (j : Int)]) xs.length with ⟨k1, j, _, _, _, k2⟩ | ⟨k1, k2⟩
      · rw [k2]
        simp only [takeD_zero, takeD_cons, List.getD_cons_zero, List.getD_cons_succ, D.int_i, if_true, show ((0 : Int) == 0) = true from rfl]
        exact hhit (by rw [hfw, hA, k1]; rfl)
      · rw [k2]
        simp only [takeD_zero, takeD_cons, List.getD_cons_zero, List.getD_cons_succ, D.int_i, Bool.false_eq_true, if_false, show ((1 : Int) == 0) = false from rfl]
        exact hmiss (by rw [hfw, hA, k1]; rfl)
    · rw [if_pos rfl]
      exact hhit (by rw [hfw, hA]; rfl)
  · have hj : j = g.N.length := by omega
    subst hj
    simp (disch := omega) only [rt8_0, VT.ok, X.ds, X.d, Op1.ev, Op2.ev, List.getD_cons_zero, List.getD_cons_succ, D.int_i, D.bool_b, D.lst_l, Bool.false_eq_true, ↓reduceIte, dlt_f]
    refine round_exit (by omega) ?_
    rw [show F L8_0.key = lpF0 from rfl, lpF0_eq]
    exact scan_end
theorem fewGD_eq (g : Gd) (n e : Int) : fewGD [.s g.nm, .b g.dr, .l g.N, .l g.E, .l g.C, .i n, .i e] = [.b (fewG g n e)] := rfl
theorem nodeRow {x : List D} {a b c d e : CT} {t : TypeId} {c6 : List CT} (h : FitsF [a, b, c, d, e, .sl t c6] x) : x.length = 6 ∧ ∃ xs, x.getD 5 default = .l xs := by
  match x, h with
  | [_, _, _, _, _, y], ⟨_, _, _, _, _, h6, _⟩ =>
    obtain ⟨xs, rfl, _⟩ := wf_sl h6
    exact ⟨rfl, xs, rfl⟩
theorem m8 : Meets Try.prog 8 S8 (R 8) (F 8) := by
  refine meets_of_vt (pre := R) (Φ := F) mixed (sgAt_all (P := Try.prog) (pre := R) (Φ := F) (l := sg8) ((fun _ h => nomatch h))) Try.func8 b8 n8 (loops_n 4 k8 fun k hk => match k, hk with | 0, _ => loop_this lf8_0 loopM8_0 | 1, _ => loop_this lf8_1 loopM8_1 | 2, _ => loop_this lf8_2 loopM8_2 | 3, _ => loop_this lf8_3 loopM8_3) e8 fun ds hf hq => ?_
  obtain ⟨g, ds', rfl, h5, _, ⟨hmN, hN⟩, ⟨hmE, _⟩, hmC, _⟩ := fitsG hf.flat
  obtain ⟨x, y, rfl, hx, hy⟩ := fits2 h5
  obtain ⟨n, rfl, _⟩ := wf_i64 hx
  obtain ⟨e, rfl, _⟩ := wf_i64 hy
  obtain ⟨hn, he⟩ : n ≤ 64 ∧ e ≤ 64 := hq
  simp only [vt8, VT.ok, Nd.holds, X.outs, X.ds, X.d, Op1.ev, Op2.ev, List.cons_append, List.nil_append, List.getD_cons_zero, List.getD_cons_succ, D.int_i, D.bool_b, D.lst_l, D.str_s, ite_b, ite_or, F10801, R10801, F10802, R10802, F10803, R10803, F8, fewGD_eq]
  show if (((decide (n < (g.N.length : Int)) || decide (e < (g.E.length : Int))) || decide (6 < (g.C.length : Int))) || decide (40 < (g.nm.size : Int))) = true then _ else _
  generalize hres : fewG g n e = res
  unfold fewG at hres
  cases hA : (((decide (n < (g.N.length : Int)) || decide (e < (g.E.length : Int))) || decide (6 < (g.C.length : Int))) || decide (40 < (g.nm.size : Int)))
  · rw [hA] at hres
    have hA' := hA
    simp only [Bool.or_eq_false_iff, decide_eq_false_iff_not] at hA'
    rw [if_neg (by decide)]
    have e0 := lpF0_eq (.b false) g 0
    simp only [Int.natCast_zero, Nat.sub_zero] at e0
    simp only [e0]
    refine ⟨fun _ => ⟨_, g, 0, rfl, by omega, by omega, fun k hk => nodeRow (hN _ (getD_mem [] hk))⟩, ?_⟩
    rcases scan_any (p := fwNd g.N) (hit := fun j => [D.i 0, .b false, .i (j : Int)]) (miss := fun j => [D.i 1, .b false, .i (j : Int)]) g.N.length with ⟨k1, j, _, _, _, k2⟩ | ⟨k1, k2⟩
    · rw [k2, ← hres, k1]; rfl
    · rw [k2]
      simp only [takeD_zero, takeD_cons, List.cons_append, List.nil_append, List.getD_cons_zero, List.getD_cons_succ, D.int_i, Bool.false_eq_true, if_false, show ((1 : Int) == 0) = false from rfl, lpF2_eq]
      refine ⟨fun _ => ⟨_, g, 0, rfl, by omega, by omega⟩, ?_⟩
      rcases scan_any (p := fwEd g.E) (hit := fun j => [D.i 0, .b false, .i (j : Int)]) (miss := fun j => [D.i 1, .b false, .i (j : Int)]) g.E.length with ⟨k3, j, _, _, _, k4⟩ | ⟨k3, k4⟩
      · rw [k4, ← hres, k1, k3]; rfl
      · rw [k4]
        simp only [takeD_zero, takeD_cons, List.cons_append, List.nil_append, List.getD_cons_zero, List.getD_cons_succ, D.int_i, Bool.false_eq_true, if_false, show ((1 : Int) == 0) = false from rfl, lpF3_eq]
        refine ⟨fun _ => ⟨_, g, 0, rfl, by omega, by omega⟩, ?_⟩
        rcases scan_any (p := fwPt g.C) (hit := fun j => [D.i 0, .b false, .i (j : Int)]) (miss := fun j => [D.i 1, .b false, .i (j : Int)]) g.C.length with ⟨k5, j, _, _, _, k6⟩ | ⟨k5, k6⟩
        · rw [k6, ← hres, k1, k3, k5]; rfl
        · rw [k6, ← hres, k1, k3, k5]; rfl
  · rw [hA] at hres
    rw [if_pos rfl, ← hres]; rfl
end Go.Proofs.Ytindllmeeckfcaa.rv
namespace Go.Proofs.Ytindllmeeckfcaa.rv
set_option maxRecDepth 10000
open Go.RV
theorem m9 : Meets Try.prog 9 S9 (R 9) (F 9) := by
  refine meets_of_vt (pre := R) (Φ := F) mixed (sgAt_all (P := Try.prog) (pre := R) (Φ := F) (l := sg9) (List.forall_mem_cons.2 ⟨Meets.at (pre := R) (Φ := F) m12, List.forall_mem_cons.2 ⟨Meets.at (pre := R) (Φ := F) m10, List.forall_mem_cons.2 ⟨Meets.at (pre := R) (Φ := F) m14, List.forall_mem_cons.2 ⟨Meets.at (pre := R) (Φ := F) m11, (fun _ h => nomatch h)⟩⟩⟩⟩)) Try.func9 b9 n9 (loops_n 0 k9 fun k hk => by omega) e9 fun ds hf hq => ?_
  have e0 := fits0 hf.flat
  subst e0
  simp only [vt9, VT.ok, Nd.holds, X.outs, X.ds, X.d, Op1.ev, Op2.ev, List.nil_append, D.int_i, D.bool_b, D.lst_l, implies_true, true_and, F12, R12, F10, R10, F11, R11, F14, R14, F9]
  refine ⟨fun _ => by kernel_rfl, fun _ => by kernel_rfl, fun _ => by kernel_rfl, by kernel_rfl⟩
theorem law4 : Meets Try.prog 4 S4 (fun _ => True) (fun _ => [.b true]) := by
  refine meets_of_vt (pre := R) (Φ := F) mixed (sgAt_all (P := Try.prog) (pre := R) (Φ := F) (l := sg4) (List.forall_mem_cons.2 ⟨Meets.at (pre := R) (Φ := F) m8, List.forall_mem_cons.2 ⟨Meets.at (pre := R) (Φ := F) m9, List.forall_mem_cons.2 ⟨Meets.at (pre := R) (Φ := F) m12, List.forall_mem_cons.2 ⟨Meets.at (pre := R) (Φ := F) m13, List.forall_mem_cons.2 ⟨Meets.at (pre := R) (Φ := F) m14, (fun _ h => nomatch h)⟩⟩⟩⟩⟩)) Try.func4 b4 n4 (loops_n 0 k4 fun k hk => by omega) e4 fun ds hf _ => ?_
  obtain ⟨g, o, B, ds', rfl, h0, hm, _⟩ := fitsGO hf.flat
  obtain rfl := fits0 h0
  have h1 : fewGP [.s g.nm, .b g.dr, .l g.N, .l g.E, .l g.C, .i 8, .i 6] := by show (8 : Int) ≤ 64 ∧ (6 : Int) ≤ 64; decide
  simp only [vt4, VT.ok, Nd.holds, X.outs, X.ds, X.d, Op1.ev, Op2.ev, takeD_zero, takeD_cons, List.cons_append, List.nil_append, List.getD_cons_zero, List.getD_cons_succ, D.int_i, D.bool_b, D.lst_l, ite_b, ite_or, ite_and, List.length_map, if_true, implies_true, true_and, and_true, F12, R12, F13, R13, F14, R14, F8, R8, F9, R9, fewGD_eq, sizesD_eq, sameLD_eq, eqR_refl same4_refl, one]
  refine ⟨fun _ => h1, ?_⟩
  split
  · trivial
  · simp
end Go.Proofs.Ytindllmeeckfcaa.rv
