/-
  Chapter 54: items in a box; the laws.
-/
import Derived.Test.YtpnfcopgmeggoaaRvSc9
namespace Go.Proofs.Ytpnfcopgmeggoaa.rv
open Go.RV

theorem loopM18_0 : LoopMeets Try.prog F (R L18_0.key) L18_0 lb18_0 := by
  refine loop_meets (pre := R) mixed (sgAt_all (P := Try.prog) (pre := R) (Φ := F) (l := sg18) (List.forall_mem_cons.2 ⟨Meets.at (pre := R) (Φ := F) m30, List.forall_mem_cons.2 ⟨Meets.at (pre := R) (Φ := F) m35, List.forall_mem_cons.2 ⟨Meets.at (pre := R) (Φ := F) m36, List.forall_mem_cons.2 ⟨Meets.at (pre := R) (Φ := F) m37, (fun _ h => nomatch h)⟩⟩⟩⟩)) (loops_n 0 lk18_0 fun k hk => by omega) L18_0 (fun ρ => ((ρ.getD 1 default).int - (ρ.getD 2 default).int).toNat) le18_0 fun ρ _ hq => ?_
  obtain ⟨I, a, b, c, d, acc, j, rfl, hj, hm, hac⟩ : prWc ρ := hq
  by_cases hlt : j < I.length
  · have hn : ∀ acc' : List (List D), acc ++ one1 (inJ I (a, b, c, d)) j = acc' → RoundOk F (R L18_0.key) (fun ρ => ((ρ.getD 1 default).int - (ρ.getD 2 default).int).toNat) L18_0 [.l I, .i (I.length : Int), .i (j : Int),  .i a, .i b, .i c, .i d, .l acc] [.i (-1), .i ((j + 1 : Nat) : Int), .l acc'] := fun acc' h => by
      subst h
      refine round_next ⟨⟨I, a, b, c, d, _, j + 1, rfl, by omega, hm, ?_⟩, ?_, ?_⟩
      · have := one1_len (inJ I (a, b, c, d)) j
        rw [List.length_append]; omega
      · show ((I.length : Int) - ((j + 1 : Nat) : Int)).toNat < ((I.length : Int) - (j : Int)).toNat
        omega
      · show lpWc [.l I, .i (I.length : Int), .i ((j + 1 : Nat) : Int),  .i a, .i b, .i c, .i d, .l (acc ++ one1 (inJ I (a, b, c, d)) j)] = lpWc [.l I, .i (I.length : Int), .i (j : Int),  .i a, .i b, .i c, .i d, .l acc]
        simp only [lpWc, Int.toNat_natCast]
        rw [coll_next (i := j) hlt acc]
    by_cases h3 : cI (el I j) 0 = 3
    · have h3' : ((I.getD j []).getD 0 default).int = 3 := h3
      have hb0 : bndD [(I.getD j []).getD 6 default] = dQ (bndQ (cL (el I j) 6)) := rfl
      have hin : inB ((bndQ (cL (el I j) 6)).1, (bndQ (cL (el I j) 6)).2.1, (bndQ (cL (el I j) 6)).2.2.1, (bndQ (cL (el I j) 6)).2.2.2) (a, b, c, d) = inJ I (a, b, c, d) j := by
        rw [inJ, ownQ, if_pos h3]
      simp (disch := omega) only [rt18_0, VT.ok, Nd.holds, X.outs, X.ds, X.d, Op1.ev, Op2.ev, takeD_zero, takeD_cons, List.cons_append, List.nil_append, List.getD_cons_zero, List.getD_cons_succ, D.int_i, D.bool_b, D.lst_l, Int.toNat_natCast, implies_true, true_and, F37, R37, F36, R36, ↓reduceIte, dle_t, dlt_t, beq_t, w64', hb0, dQ, fn37_eq, hin, List.length_append, List.length_cons, List.length_nil]
      cases hh : inJ I (a, b, c, d) j
      · exact hn acc (by rw [one1, hh]; exact List.append_nil _)
      · simp only [if_true]
        exact hn _ (by rw [one1, hh]; rfl)
    · have h3' : ((I.getD j []).getD 0 default).int ≠ 3 := h3
      have hin : inB (((I.getD j []).getD 2 default).int, ((I.getD j []).getD 3 default).int, ((I.getD j []).getD 4 default).int, ((I.getD j []).getD 5 default).int) (a, b, c, d) = inJ I (a, b, c, d) j := by
        rw [inJ, ownQ, if_neg h3]; rfl
      simp (disch := omega) only [rt18_0, VT.ok, Nd.holds, X.outs, X.ds, X.d, Op1.ev, Op2.ev, takeD_zero, takeD_cons, List.cons_append, List.nil_append, List.getD_cons_zero, List.getD_cons_succ, D.int_i, D.bool_b, D.lst_l, Int.toNat_natCast, Bool.false_eq_true, implies_true, true_and, F37, R37, ↓reduceIte, dle_t, dlt_t, beq_f, w64', fn37_eq, hin, List.length_append, List.length_cons, List.length_nil]
      cases hh : inJ I (a, b, c, d) j
      · exact hn acc (by rw [one1, hh]; exact List.append_nil _)
      · simp only [if_true]
        exact hn _ (by rw [one1, hh]; rfl)
  · have hj' : j = I.length := by omega
    subst hj'
    simp (disch := omega) only [rt18_0, VT.ok, X.ds, X.d, Op2.ev, List.getD_cons_zero, List.getD_cons_succ, D.int_i, D.bool_b, Bool.false_eq_true, ↓reduceIte, dlt_f]
    refine round_exit (by omega) ?_
    show lpWc [.l I, .i (I.length : Int), .i (I.length : Int),  .i a, .i b, .i c, .i d, .l acc] = _
    simp only [lpWc, Int.toNat_natCast, coll_end]
theorem loopM19_0 : LoopMeets Try.prog F (R L19_0.key) L19_0 lb19_0 := by
  refine loop_meets (pre := R) mixed (sgAt_all (P := Try.prog) (pre := R) (Φ := F) (l := sg19) (List.forall_mem_cons.2 ⟨Meets.at (pre := R) (Φ := F) m17, List.forall_mem_cons.2 ⟨Meets.at (pre := R) (Φ := F) m38, List.forall_mem_cons.2 ⟨Meets.at (pre := R) (Φ := F) m39, List.forall_mem_cons.2 ⟨Meets.at (pre := R) (Φ := F) m40, (fun _ h => nomatch h)⟩⟩⟩⟩)) (loops_n 0 lk19_0 fun k hk => by omega) L19_0 (fun ρ => (((ρ.getD 5 default).lst.length : Int) - (ρ.getD 0 default).int).toNat) le19_0 fun ρ _ hq => ?_
  obtain ⟨x, y, z, w, I, a, b, c, d, acc, j, rfl, hj, hm, hac⟩ : prWr ρ := hq
  by_cases hlt : j < I.length
  · have hn : ∀ acc' : List (List D), acc ++ one1 (inJ I (a, b, c, d)) j = acc' → RoundOk F (R L19_0.key) (fun ρ => (((ρ.getD 5 default).lst.length : Int) - (ρ.getD 0 default).int).toNat) L19_0 [ .i (j : Int), x, y, z, w, .l I, .i a, .i b, .i c, .i d, .l acc] [.i (-1), .i ((j + 1 : Nat) : Int), .l acc'] := fun acc' h => by
      subst h
      refine round_next ⟨⟨x, y, z, w, I, a, b, c, d, _, j + 1, rfl, by omega, hm, ?_⟩, ?_, ?_⟩
      · have := one1_len (inJ I (a, b, c, d)) j
        rw [List.length_append]; omega
      · show ((I.length : Int) - ((j + 1 : Nat) : Int)).toNat < ((I.length : Int) - (j : Int)).toNat
        omega
      · show lpWr [ .i ((j + 1 : Nat) : Int), x, y, z, w, .l I, .i a, .i b, .i c, .i d, .l (acc ++ one1 (inJ I (a, b, c, d)) j)] = lpWr [ .i (j : Int), x, y, z, w, .l I, .i a, .i b, .i c, .i d, .l acc]
        simp only [lpWr, Int.toNat_natCast]
        rw [coll_next (i := j) hlt acc]
    by_cases h3 : cI (el I j) 0 = 3
    · have h3' : ((I.getD j []).getD 0 default).int = 3 := h3
      have hb0 : bndD [(I.getD j []).getD 6 default] = dQ (bndQ (cL (el I j) 6)) := rfl
      have hin : inB ((bndQ (cL (el I j) 6)).1, (bndQ (cL (el I j) 6)).2.1, (bndQ (cL (el I j) 6)).2.2.1, (bndQ (cL (el I j) 6)).2.2.2) (a, b, c, d) = inJ I (a, b, c, d) j := by
        rw [inJ, ownQ, if_pos h3]
      simp (disch := omega) only [rt19_0, VT.ok, Nd.holds, X.outs, X.ds, X.d, Op1.ev, Op2.ev, takeD_zero, takeD_cons, List.cons_append, List.nil_append, List.getD_cons_zero, List.getD_cons_succ, D.int_i, D.bool_b, D.lst_l, Int.toNat_natCast, implies_true, true_and, F40, R40, F39, R39, ↓reduceIte, dle_t, dlt_t, beq_t, w64', hb0, dQ, fn40_eq, hin, List.length_append, List.length_cons, List.length_nil]
      cases hh : inJ I (a, b, c, d) j
      · exact hn acc (by rw [one1, hh]; exact List.append_nil _)
      · simp only [if_true]
        exact hn _ (by rw [one1, hh]; rfl)
    · have h3' : ((I.getD j []).getD 0 default).int ≠ 3 := h3
      have hin : inB (((I.getD j []).getD 2 default).int, ((I.getD j []).getD 3 default).int, ((I.getD j []).getD 4 default).int, ((I.getD j []).getD 5 default).int) (a, b, c, d) = inJ I (a, b, c, d) j := by
        rw [inJ, ownQ, if_neg h3]; rfl
      simp (disch := omega) only [rt19_0, VT.ok, Nd.holds, X.outs, X.ds, X.d, Op1.ev, Op2.ev, takeD_zero, takeD_cons, List.cons_append, List.nil_append, List.getD_cons_zero, List.getD_cons_succ, D.int_i, D.bool_b, D.lst_l, Int.toNat_natCast, Bool.false_eq_true, implies_true, true_and, F40, R40, ↓reduceIte, dle_t, dlt_t, beq_f, w64', fn40_eq, hin, List.length_append, List.length_cons, List.length_nil]
      cases hh : inJ I (a, b, c, d) j
      · exact hn acc (by rw [one1, hh]; exact List.append_nil _)
      · simp only [if_true]
        exact hn _ (by rw [one1, hh]; rfl)
  · have hj' : j = I.length := by omega
    subst hj'
    simp (disch := omega) only [rt19_0, VT.ok, X.ds, X.d, Op1.ev, Op2.ev, List.getD_cons_zero, List.getD_cons_succ, D.int_i, D.bool_b, D.lst_l, Bool.false_eq_true, ↓reduceIte, dlt_f]
    refine round_exit (by omega) ?_
    show lpWr [ .i (I.length : Int), x, y, z, w, .l I, .i a, .i b, .i c, .i d, .l acc] = _
    simp only [lpWr, Int.toNat_natCast, coll_end]
theorem m18 : Meets Try.prog 18 S18 (R 18) (F 18) := by
  refine meets_of_vt (pre := R) (Φ := F) mixed (sgAt_all (P := Try.prog) (pre := R) (Φ := F) (l := sg18) (List.forall_mem_cons.2 ⟨Meets.at (pre := R) (Φ := F) m30, List.forall_mem_cons.2 ⟨Meets.at (pre := R) (Φ := F) m35, List.forall_mem_cons.2 ⟨Meets.at (pre := R) (Φ := F) m36, List.forall_mem_cons.2 ⟨Meets.at (pre := R) (Φ := F) m37, (fun _ h => nomatch h)⟩⟩⟩⟩)) Try.func18 b18 n18 (loops_n 1 k18 fun k hk => match k, hk with | 0, _ => loop_this lf18_0 loopM18_0) e18 fun ds hf _ => ?_
  obtain ⟨a, b, c, d, I, ds', rfl, h5, hm, hfx⟩ := fitsS hf.flat
  obtain ⟨x, y, z, w, rfl, hx, hy, hz, hw⟩ := fits4 h5
  obtain ⟨e, rfl, _⟩ := wf_i64 hx
  obtain ⟨f, rfl, _⟩ := wf_i64 hy
  obtain ⟨g, rfl, _⟩ := wf_i64 hz
  obtain ⟨h, rfl, _⟩ := wf_i64 hw
  have hF : F 18 [.i a, .i b, .i c, .i d, .l I, .i e, .i f, .i g, .i h] = [.l (witR I (a, b, c, d) (e, f, g, h))] := rfl
  have hval : valD [.i a, .i b, .i c, .i d, .l I] = [.i (validS I (a, b, c, d))] := rfl
  have hq9 : bxQ (e, f, g, h) = bxB e f g h := rfl
  rw [hF]
  cases h1 : ((validS I (a, b, c, d) == 0) && bxB e f g h)
  · rw [witR, hq9, h1]
    have hc : (!(validS I (a, b, c, d) == 0) || !bxB e f g h) = true := by
      cases h2 : (validS I (a, b, c, d) == 0) <;> cases h3 : bxB e f g h <;> first | rfl | (rw [h2, h3] at h1; cases h1)
    simp only [vt18, VT.ok, Nd.holds, X.outs, X.ds, X.d, Op1.ev, Op2.ev, takeD_zero, takeD_cons, List.cons_append, List.nil_append, List.getD_cons_zero, List.getD_cons_succ, D.int_i, D.bool_b, D.lst_l, ite_b, ite_or, if_true, Bool.false_eq_true, if_false, implies_true, and_true, F35, R35, F30, R30, F11800, R11800, hval, fn35_eq, hc]
  · rw [witR, hq9, h1, if_pos rfl]
    simp only [Bool.and_eq_true, beq_iff_eq] at h1
    obtain ⟨h2, h3⟩ := h1
    have hl := (validS_iff.1 h2).1
    have hpre : prWc [.l I, .i (I.length : Int), .i 0, .i e, .i f, .i g, .i h, .l []] := ⟨I, e, f, g, h, [], 0, rfl, by omega, hl, by simp⟩
    have hlp : lpWc [.l I, .i (I.length : Int), .i 0, .i e, .i f, .i g, .i h, .l []] = [.i 0, .i (I.length : Int), .l (collN (one1 (inJ I (e, f, g, h))) I.length 0)] := rfl
    simp (disch := omega) only [vt18, VT.ok, Nd.holds, X.outs, X.ds, X.d, Op1.ev, Op2.ev, takeD_zero, takeD_cons, List.cons_append, List.nil_append, List.getD_cons_zero, List.getD_cons_succ, D.int_i, D.bool_b, D.lst_l, Bool.false_eq_true, implies_true, true_and, and_true, F35, R35, F30, R30, F11800, R11800, ↓reduceIte, hval, fn35_eq, h2, h3, Bool.not_true, hlp, beq_self_eq_true]
    exact fun _ => hpre
theorem m19 : Meets Try.prog 19 S19 (R 19) (F 19) := by
  refine meets_of_vt (pre := R) (Φ := F) mixed (sgAt_all (P := Try.prog) (pre := R) (Φ := F) (l := sg19) (List.forall_mem_cons.2 ⟨Meets.at (pre := R) (Φ := F) m17, List.forall_mem_cons.2 ⟨Meets.at (pre := R) (Φ := F) m38, List.forall_mem_cons.2 ⟨Meets.at (pre := R) (Φ := F) m39, List.forall_mem_cons.2 ⟨Meets.at (pre := R) (Φ := F) m40, (fun _ h => nomatch h)⟩⟩⟩⟩)) Try.func19 b19 n19 (loops_n 1 k19 fun k hk => match k, hk with | 0, _ => loop_this lf19_0 loopM19_0) e19 fun ds hf _ => ?_
  obtain ⟨a, b, c, d, I, ds', rfl, h5, hm, hfx⟩ := fitsS hf.flat
  obtain ⟨x, y, z, w, rfl, hx, hy, hz, hw⟩ := fits4 h5
  obtain ⟨e, rfl, _⟩ := wf_i64 hx
  obtain ⟨f, rfl, _⟩ := wf_i64 hy
  obtain ⟨g, rfl, _⟩ := wf_i64 hz
  obtain ⟨h, rfl, _⟩ := wf_i64 hw
  have hF : F 19 [.i a, .i b, .i c, .i d, .l I, .i e, .i f, .i g, .i h] = [.l (witR I (a, b, c, d) (e, f, g, h))] := rfl
  have hval : valD [.i a, .i b, .i c, .i d, .l I] = [.i (validS I (a, b, c, d))] := rfl
  have hq9 : bxQ (e, f, g, h) = bxB e f g h := rfl
  rw [hF]
  cases h1 : ((validS I (a, b, c, d) == 0) && bxB e f g h)
  · rw [witR, hq9, h1]
    have hc : (!(validS I (a, b, c, d) == 0) || !bxB e f g h) = true := by
      cases h2 : (validS I (a, b, c, d) == 0) <;> cases h3 : bxB e f g h <;> first | rfl | (rw [h2, h3] at h1; cases h1)
    simp only [vt19, VT.ok, Nd.holds, X.outs, X.ds, X.d, Op1.ev, Op2.ev, takeD_zero, takeD_cons, List.cons_append, List.nil_append, List.getD_cons_zero, List.getD_cons_succ, D.int_i, D.bool_b, ite_b, ite_or, if_true, Bool.false_eq_true, if_false, implies_true, and_true, F38, R38, F17, R17, F11900, R11900, hval, fn38_eq, hc]
  · rw [witR, hq9, h1, if_pos rfl]
    simp only [Bool.and_eq_true, beq_iff_eq] at h1
    obtain ⟨h2, h3⟩ := h1
    have hl := (validS_iff.1 h2).1
    have hpre : prWr [.i 0, .i a, .i b, .i c, .i d, .l I, .i e, .i f, .i g, .i h, .l []] := ⟨_, _, _, _, I, e, f, g, h, [], 0, rfl, by omega, hl, by simp⟩
    have hlp : lpWr [.i 0, .i a, .i b, .i c, .i d, .l I, .i e, .i f, .i g, .i h, .l []] = [.i 0, .i (I.length : Int), .l (collN (one1 (inJ I (e, f, g, h))) I.length 0)] := rfl
    simp (disch := omega) only [vt19, VT.ok, Nd.holds, X.outs, X.ds, X.d, Op1.ev, Op2.ev, takeD_zero, takeD_cons, List.cons_append, List.nil_append, List.getD_cons_zero, List.getD_cons_succ, D.int_i, D.bool_b, Bool.false_eq_true, implies_true, true_and, and_true, F38, R38, F17, R17, F11900, R11900, ↓reduceIte, hval, fn38_eq, h2, h3, Bool.not_true, hlp, beq_self_eq_true]
    exact fun _ => hpre

/-! ### the examples -/
def exL : List (List D) := [[.i 0, .i 0], [.i 6, .i 0]]
def exI : List (List D) := [[.i 2, .i 0, .i 0, .i 0, .i 6, .i 6, .l [], .s ⟨#[]⟩], [.i 3, .i 0, .i 0, .i 0, .i 0, .i 0, .l exL, .s ⟨#[]⟩]]
theorem ex1 : nearD [.l [[.i 0, .i 0], [.i 6, .i 0]], .i 3, .i 4, .i 4] = [.b true] := by kernel_rfl
theorem ex2 : nearD [.l [[.i 0, .i 0], [.i 6, .i 0]], .i 3, .i 4, .i 3] = [.b false] := by kernel_rfl
theorem ex3 : nearD [.l ((([[.i 0, .i 0], [.i 6, .i 0]] : List (List D)).take (Int.toNat 1)).drop (Int.toNat 0)), .i 3, .i 4, .i 5] = [.b true] := by kernel_rfl
theorem ex4 : nearD [.l ((([[.i 0, .i 0], [.i 6, .i 0]] : List (List D)).take (Int.toNat 1)).drop (Int.toNat 0)), .i 3, .i 4, .i 4] = [.b false] := by kernel_rfl
theorem ex5 : allD [.i 0, .i 0, .i 6, .i 6, .l exI, .i 3, .i 4, .i 4] = [.l [[.i 1], [.i 0]]] := by kernel_rfl
theorem ex6 : eqFn sameI1 [.l [[.i 1], [.i 0]], .l [[.i 1], [.i 0]]] = [.b true] := by kernel_rfl
theorem ex7 : atD [.i 0, .i 0, .i 6, .i 6, .l exI, .i 3, .i 4, .i 3] = [.i 0] := by kernel_rfl
theorem ex8 : atD [.i 0, .i 0, .i 6, .i 6, .l exI, .i 9, .i 0, .i 1] = [.i (-1)] := by kernel_rfl
theorem ex9 : witD [.i 0, .i 0, .i 6, .i 6, .l exI, .i 0, .i 0, .i 7, .i 2] = [.l [[.i 1]]] := by kernel_rfl
theorem ex10 : eqFn sameI1 [.l [[.i 1]], .l [[.i 1]]] = [.b true] := by kernel_rfl
theorem exI_def : ([[.i 2, .i 0, .i 0, .i 0, .i 6, .i 6, .l [], .s ⟨#[]⟩], [.i 3, .i 0, .i 0, .i 0, .i 0, .i 0, .l [[.i 0, .i 0], [.i 6, .i 0]], .s ⟨#[]⟩]] : List (List D)) = exI := rfl
theorem m8 : Meets Try.prog 8 S8 (R 8) (F 8) := by
  refine meets_of_vt (pre := R) (Φ := F) mixed (sgAt_all (P := Try.prog) (pre := R) (Φ := F) (l := sg8) (List.forall_mem_cons.2 ⟨Meets.at (pre := R) (Φ := F) m9, List.forall_mem_cons.2 ⟨Meets.at (pre := R) (Φ := F) m13, List.forall_mem_cons.2 ⟨Meets.at (pre := R) (Φ := F) m12, List.forall_mem_cons.2 ⟨Meets.at (pre := R) (Φ := F) m15, List.forall_mem_cons.2 ⟨Meets.at (pre := R) (Φ := F) m18, (fun _ h => nomatch h)⟩⟩⟩⟩⟩)) Try.func8 b8 n8 (loops_n 0 k8 fun k hk => by omega) e8 fun ds hf hq => ?_
  have e := fits0 hf.flat
  subst e
  simp only [vt8, VT.ok, Nd.holds, X.outs, X.ds, X.d, Op1.ev, Op2.ev, takeD_zero, takeD_cons, List.cons_append, List.nil_append, List.getD_cons_zero, List.getD_cons_succ, D.int_i, D.bool_b, D.lst_l, ite_b, ite_and, if_true, implies_true, true_and, F8, F12, R12, F9, R9, F13, R13, F15, R15, F18, R18, exI_def, ex1, ex2, ex3, ex4, ex5, ex6, ex7, ex8, ex9, ex10, one]
  exact ⟨fun _ => by kernel_rfl, fun _ => by kernel_rfl, by kernel_rfl⟩

/-! ### the laws -/
theorem law3 : Meets Try.prog 3 S3 (fun _ => True) (fun _ => [.b true]) := by
  refine meets_of_vt (pre := R) (Φ := F) mixed (sgAt_all (P := Try.prog) (pre := R) (Φ := F) (l := sg3) (List.forall_mem_cons.2 ⟨Meets.at (pre := R) (Φ := F) m8, List.forall_mem_cons.2 ⟨Meets.at (pre := R) (Φ := F) m9, List.forall_mem_cons.2 ⟨Meets.at (pre := R) (Φ := F) m10, (fun _ h => nomatch h)⟩⟩⟩)) Try.func3 b3 n3 (loops_n 0 k3 fun k hk => by omega) e3 fun ds hf _ => ?_
  obtain ⟨x, a, b, c, rfl, hx, ha, hb, hc⟩ := fits4 hf.flat
  obtain ⟨xs, rfl, hm, hfx⟩ := wf_sl hx
  simp only [vt3, VT.ok, Nd.holds, X.outs, X.ds, X.d, Op1.ev, Op2.ev, takeD_zero, takeD_cons, List.cons_append, List.nil_append, List.getD_cons_zero, List.getD_cons_succ, D.int_i, D.bool_b, D.lst_l, ite_b, ite_and, implies_true, true_and, and_true, F8, R8, F9, R9, F10, R10, nearD, one]
  generalize nearB (cL [D.l xs, a, b, c] 0) (cI [D.l xs, a, b, c] 1) (cI [D.l xs, a, b, c] 2) (cI [D.l xs, a, b, c] 3) = n
  split
  · trivial
  · cases n <;> rfl
theorem sameI_refl (xs : List (List D)) : eqR sameI1 xs xs = true := eqR_refl (fun x => by simp [sameI1]) xs
theorem sameF (xs : List (List D)) : eqFn sameI1 [.l xs, .l xs] = [.b true] := congrArg (fun b => [D.b b]) (sameI_refl xs)
theorem law4 : Meets Try.prog 4 S4 (fun _ => True) (fun _ => [.b true]) := by
  refine meets_of_vt (pre := R) (Φ := F) mixed (sgAt_all (P := Try.prog) (pre := R) (Φ := F) (l := sg4) (List.forall_mem_cons.2 ⟨Meets.at (pre := R) (Φ := F) m11, List.forall_mem_cons.2 ⟨Meets.at (pre := R) (Φ := F) m8, List.forall_mem_cons.2 ⟨Meets.at (pre := R) (Φ := F) m13, List.forall_mem_cons.2 ⟨Meets.at (pre := R) (Φ := F) m14, List.forall_mem_cons.2 ⟨Meets.at (pre := R) (Φ := F) m12, List.forall_mem_cons.2 ⟨Meets.at (pre := R) (Φ := F) m15, List.forall_mem_cons.2 ⟨Meets.at (pre := R) (Φ := F) m16, (fun _ h => nomatch h)⟩⟩⟩⟩⟩⟩⟩)) Try.func4 b4 n4 (loops_n 0 k4 fun k hk => by omega) e4 fun ds hf _ => ?_
  obtain ⟨a, b, c, d, I, ds', rfl, h5, hm, hfx⟩ := fitsS hf.flat
  obtain ⟨x, y, z, rfl, hx, hy, hz⟩ := fits3 h5
  have hall : allD [.i a, .i b, .i c, .i d, .l I, x, y, z] = [.l (allR I (a, b, c, d) x.int y.int z.int)] := rfl
  have hat : atD [.i a, .i b, .i c, .i d, .l I, x, y, z] = [.i (atI I (a, b, c, d) x.int y.int z.int)] := rfl
  have he : eqFn sameI1 [.l (allR I (a, b, c, d) x.int y.int z.int), .l (allR I (a, b, c, d) x.int y.int z.int)] = [.b true] := sameF _
  simp only [vt4, VT.ok, Nd.holds, X.outs, X.ds, X.d, Op1.ev, Op2.ev, takeD_zero, takeD_cons, List.cons_append, List.nil_append, List.getD_cons_zero, List.getD_cons_succ, D.int_i, D.bool_b, D.lst_l, ite_b, ite_and, if_true, implies_true, true_and, and_true, F8, R8, F11, R11, F12, R12, F13, R13, F14, R14, F15, R15, F16, R16, smallD, one, cL, hall, hat, he]
  cases smallB I
  · simp
  · simp only [Bool.not_true, Bool.false_eq_true, if_false, beq_self_eq_true, Bool.and_self]
theorem law5 : Meets Try.prog 5 S5 (fun _ => True) (fun _ => [.b true]) := by
  refine meets_of_vt (pre := R) (Φ := F) mixed (sgAt_all (P := Try.prog) (pre := R) (Φ := F) (l := sg5) (List.forall_mem_cons.2 ⟨Meets.at (pre := R) (Φ := F) m11, List.forall_mem_cons.2 ⟨Meets.at (pre := R) (Φ := F) m8, List.forall_mem_cons.2 ⟨Meets.at (pre := R) (Φ := F) m17, List.forall_mem_cons.2 ⟨Meets.at (pre := R) (Φ := F) m18, List.forall_mem_cons.2 ⟨Meets.at (pre := R) (Φ := F) m19, List.forall_mem_cons.2 ⟨Meets.at (pre := R) (Φ := F) m12, (fun _ h => nomatch h)⟩⟩⟩⟩⟩⟩)) Try.func5 b5 n5 (loops_n 0 k5 fun k hk => by omega) e5 fun ds hf _ => ?_
  obtain ⟨a, b, c, d, I, ds', rfl, h5, hm, hfx⟩ := fitsS hf.flat
  obtain ⟨x, y, z, w, rfl, hx, hy, hz, hw⟩ := fits4 h5
  have hval : valD [.i a, .i b, .i c, .i d, .l I] = [.i (validS I (a, b, c, d))] := rfl
  have hw1 : witD [.i a, .i b, .i c, .i d, .l I, .i a, .i b, .i c, .i d] = [.l (witR I (a, b, c, d) (a, b, c, d))] := rfl
  have hw2 : witD [.i a, .i b, .i c, .i d, .l I, x, y, z, w] = [.l (witR I (a, b, c, d) (x.int, y.int, z.int, w.int))] := rfl
  have he : eqFn sameI1 [.l (witR I (a, b, c, d) (x.int, y.int, z.int, w.int)), .l (witR I (a, b, c, d) (x.int, y.int, z.int, w.int))] = [.b true] := sameF _
  have hc : ((validS I (a, b, c, d) == 0) && !(((witR I (a, b, c, d) (a, b, c, d)).length : Int) == (I.length : Int))) = false := by
    by_cases h : validS I (a, b, c, d) = 0
    · rw [wit_own h]; simp
    · rw [beq_f h]; rfl
  simp only [vt5, VT.ok, Nd.holds, X.outs, X.ds, X.d, Op1.ev, Op2.ev, takeD_zero, takeD_cons, List.cons_append, List.nil_append, List.getD_cons_zero, List.getD_cons_succ, D.int_i, D.bool_b, D.lst_l, ite_b, ite_and, if_true, Bool.false_eq_true, if_false, implies_true, true_and, and_true, F17, R17, F8, R8, F11, R11, F12, R12, F18, R18, F19, R19, smallD, one, cL, hval, hw1, hw2, he, hc]
  cases smallB I <;> simp
theorem loopM6_0 : LoopMeets Try.prog F (R L6_0.key) L6_0 lb6_0 := by
  refine loop_meets (pre := R) mixed (sgAt_all (P := Try.prog) (pre := R) (Φ := F) (l := sg6) (List.forall_mem_cons.2 ⟨Meets.at (pre := R) (Φ := F) m11, List.forall_mem_cons.2 ⟨Meets.at (pre := R) (Φ := F) m8, List.forall_mem_cons.2 ⟨Meets.at (pre := R) (Φ := F) m13, List.forall_mem_cons.2 ⟨Meets.at (pre := R) (Φ := F) m20, (fun _ h => nomatch h)⟩⟩⟩⟩)) (loops_n 0 lk6_0 fun k hk => by omega) L6_0 (fun ρ => (((ρ.getD 1 default).lst.length : Int) - (ρ.getD 3 default).int).toNat) le6_0 fun ρ _ hq => ?_
  obtain ⟨v, l, m, j, rfl, hj, hm, hs⟩ : prSub ρ := hq
  rw [maxLen_val] at hm
  by_cases hlt : j < l.length
  · have he : hsD [.l m, (l.getD j []).getD 0 default] = [.b true] := by
      show [D.b (anyN (fun k => cI (el m k) 0 == cI (el l j) 0) m.length)] = _
      rw [hs j hlt]
    simp (disch := omega) only [rt6_0, VT.ok, Nd.holds, X.outs, X.ds, X.d, Op1.ev, Op2.ev, takeD_zero, takeD_cons, List.cons_append, List.nil_append, List.getD_cons_zero, List.getD_cons_succ, D.int_i, D.bool_b, D.lst_l, Int.toNat_natCast, Bool.false_eq_true, implies_true, true_and, F20, R20, ↓reduceIte, dle_t, dlt_t, w64', he, Bool.not_true]
    refine round_next ⟨⟨v, l, m, j + 1, rfl, by omega, hm, hs⟩, ?_, rfl⟩
    show ((l.length : Int) - ((j + 1 : Nat) : Int)).toNat < ((l.length : Int) - (j : Int)).toNat
    omega
  · have hj' : j = l.length := by omega
    subst hj'
    simp (disch := omega) only [rt6_0, VT.ok, X.ds, X.d, Op1.ev, Op2.ev, List.getD_cons_zero, List.getD_cons_succ, D.int_i, D.bool_b, D.lst_l, Bool.false_eq_true, ↓reduceIte, dlt_f]
    exact round_exit (by omega) rfl
theorem all_len {I : List (List D)} {b : Bx} {px py t : Int} : (allR I b px py t).length ≤ 2048 := by
  unfold allR
  split
  · rename_i h
    simp only [Bool.and_eq_true, beq_iff_eq] at h
    have h1 := (validS_iff.1 h.1.1).1
    have h2 := down_len (f := one1 (hitJ I px py t)) (n := I.length) (m := 1) (one1_len _)
    omega
  · simp
theorem law6 : Meets Try.prog 6 S6 (fun _ => True) (fun _ => [.b true]) := by
  refine meets_of_vt (pre := R) (Φ := F) mixed (sgAt_all (P := Try.prog) (pre := R) (Φ := F) (l := sg6) (List.forall_mem_cons.2 ⟨Meets.at (pre := R) (Φ := F) m11, List.forall_mem_cons.2 ⟨Meets.at (pre := R) (Φ := F) m8, List.forall_mem_cons.2 ⟨Meets.at (pre := R) (Φ := F) m13, List.forall_mem_cons.2 ⟨Meets.at (pre := R) (Φ := F) m20, (fun _ h => nomatch h)⟩⟩⟩⟩)) Try.func6 b6 n6 (loops_n 1 k6 fun k hk => match k, hk with | 0, _ => loop_this lf6_0 loopM6_0) e6 fun ds hf _ => ?_
  obtain ⟨a, b, c, d, I, ds', rfl, h5, hm, hfx⟩ := fitsS hf.flat
  obtain ⟨x, y, z, rfl, hx, hy, hz⟩ := fits3 h5
  obtain ⟨px, rfl, _⟩ := wf_i64 hx
  obtain ⟨py, rfl, _⟩ := wf_i64 hy
  obtain ⟨t, rfl, _⟩ := wf_i64 hz
  by_cases hc : smallB I = true ∧ 0 ≤ t ∧ t < 1048576
  · obtain ⟨h1, h2, h3⟩ := hc
    have ha : ∀ u : Int, allD [.i a, .i b, .i c, .i d, .l I, .i px, .i py, .i u] = [.l (allR I (a, b, c, d) px py u)] := fun _ => rfl
    have hl := all_len (I := I) (b := (a, b, c, d)) (px := px) (py := py) (t := t)
    have hpre : prSub [.b false, .l (allR I (a, b, c, d) px py t), .l (allR I (a, b, c, d) px py (t + 1)), .i 0] := ⟨_, _, _, 0, rfl, by omega, by rw [maxLen_val]; omega, fun i hi => all_has h3 hi⟩
    simp (disch := omega) only [vt6, VT.ok, Nd.holds, X.outs, X.ds, X.d, Op1.ev, Op2.ev, takeD_zero, takeD_cons, List.cons_append, List.nil_append, List.getD_cons_zero, List.getD_cons_succ, D.int_i, D.bool_b, D.lst_l, Bool.false_eq_true, implies_true, true_and, and_true, F8, R8, F11, R11, F10600, R10600, F13, R13, ↓reduceIte, dle_f, dlt_f, beq_f, w64', smallD, one, cL, h1, ha, Bool.not_true, lpSub]
    exact fun _ => hpre
  · have hcond : ((!smallB I || decide (t < 0)) || decide (1048576 ≤ t)) = true := by
      cases h1 : smallB I
      · rfl
      · rw [h1] at hc
        simp only [Bool.not_true, Bool.false_or, Bool.or_eq_true, decide_eq_true_eq]
        have hc : ¬ (0 ≤ t ∧ t < 1048576) := fun h => hc ⟨rfl, h⟩
        omega
    simp only [vt6, VT.ok, Nd.holds, X.outs, X.ds, X.d, Op1.ev, Op2.ev, takeD_zero, takeD_cons, List.cons_append, List.nil_append, List.getD_cons_zero, List.getD_cons_succ, D.int_i, D.bool_b, D.lst_l, ite_b, ite_or, if_true, implies_true, true_and, and_true, F8, R8, F11, R11, F10600, R10600, F13, R13, smallD, one, cL, hcond]
theorem law7 : Meets Try.prog 7 S7 (fun _ => True) (fun _ => [.b true]) := by
  refine meets_of_vt (pre := R) (Φ := F) mixed (sgAt_all (P := Try.prog) (pre := R) (Φ := F) (l := sg7) (List.forall_mem_cons.2 ⟨Meets.at (pre := R) (Φ := F) m21, List.forall_mem_cons.2 ⟨Meets.at (pre := R) (Φ := F) m8, List.forall_mem_cons.2 ⟨Meets.at (pre := R) (Φ := F) m9, (fun _ h => nomatch h)⟩⟩⟩)) Try.func7 b7 n7 (loops_n 0 k7 fun k hk => by omega) e7 fun ds hf _ => ?_
  obtain ⟨x, a, b, c, rfl, hx, ha, hb, hc⟩ := fits4 hf.flat
  obtain ⟨xs, rfl, hm, hfx⟩ := wf_sl hx
  obtain ⟨i, rfl, bi⟩ := wf_i64 ha
  obtain ⟨dx, rfl, bdx⟩ := wf_i64 hb
  obtain ⟨t, rfl, bt⟩ := wf_i64 hc
  have hp := ptsy_of hfx
  by_cases hg : ((xs.length ≤ 100 ∧ pathB xs = true) ∧ (0 ≤ i ∧ i < xs.length)) ∧ (0 ≤ t ∧ t ≤ 1048576) ∧ (-t ≤ dx ∧ dx ≤ t)
  · obtain ⟨⟨⟨h1, h2⟩, h3, h4⟩, ⟨h5, h6⟩, h7, h8⟩ := hg
    obtain ⟨k, rfl⟩ : ∃ k : Nat, i = k := ⟨i.toNat, by omega⟩
    have hk : k < xs.length := by omega
    obtain ⟨g1, g2, g3, g4⟩ := pathB_iff.1 h2
    have gk := ptB_iff.1 (g3 k hk)
    obtain ⟨e0, e1⟩ := hp k hk
    have n1 : nearD [.l xs, .i (pX xs k), .i (pY xs k), .i 0] = [.b true] := by
      show [D.b (nearB xs (pX xs k) (pY xs k) 0)] = _
      rw [near_own h2 (g3 k hk) rfl hk (by rw [ner, sq]; simp)]
    have hx1 : ((xs.getD k []).getD 0 default).int = pX xs k := rfl
    by_cases hb : -268435456 ≤ pX xs k + dx ∧ pX xs k + dx ≤ 268435456
    · have n2 : nearD [.l xs, .i (pX xs k + dx), .i (pY xs k), .i t] = [.b true] := by
        show [D.b (nearB xs (pX xs k + dx) (pY xs k) t)] = _
        rw [near_own h2 (ptB_iff.2 (by omega)) (tlB_iff.2 ⟨h5, h6⟩) hk (ner_dx ⟨h7, h8⟩)]
      simp (disch := omega) only [vt7, VT.ok, Nd.holds, X.outs, X.ds, X.d, Op1.ev, Op2.ev, takeD_zero, takeD_cons, List.cons_append, List.nil_append, List.getD_cons_zero, List.getD_cons_succ, D.int_i, D.bool_b, D.lst_l, Int.toNat_natCast, Bool.false_eq_true, implies_true, and_true, F21, R21, F8, R8, F9, R9, ↓reduceIte, dle_t, dle_f, dlt_t, dlt_f, w64', pathD, one, cL, h2, e0, e1, n1, n2, Bool.not_true, Bool.not_false, Int.zero_sub]
    · have hcnd : (decide (pX xs k + dx < -268435456) || decide (268435456 < pX xs k + dx)) = true := by
        simp only [Bool.or_eq_true, decide_eq_true_eq]; omega
      simp (disch := omega) only [vt7, VT.ok, Nd.holds, X.outs, X.ds, X.d, Op1.ev, Op2.ev, takeD_zero, takeD_cons, List.cons_append, List.nil_append, List.getD_cons_zero, List.getD_cons_succ, D.int_i, D.bool_b, D.lst_l, ite_b, ite_or, Int.toNat_natCast, Bool.false_eq_true, implies_true, and_true, F21, R21, F8, R8, ↓reduceIte, dle_t, dle_f, dlt_t, dlt_f, w64', pathD, one, cL, h2, e0, Bool.not_true, Bool.not_false, Int.zero_sub, hcnd]
  · have hcond : ((((((((decide (100 < (xs.length : Int)) || !pathB xs) || decide (i < 0)) || decide ((xs.length : Int) ≤ i)) || decide (t < 0)) || decide (1048576 < t)) || decide (dx < IntKind.i64.wrap (0 - t))) || decide (t < dx))) = true := by
      cases h2 : pathB xs
      · simp
      · rw [h2] at hg
        simp only [Bool.not_true, Bool.or_false, Bool.or_eq_true, decide_eq_true_eq]
        have hg : ¬ (((xs.length ≤ 100) ∧ (0 ≤ i ∧ i < xs.length)) ∧ (0 ≤ t ∧ t ≤ 1048576) ∧ (-t ≤ dx ∧ dx ≤ t)) := fun h => hg ⟨⟨⟨h.1.1, rfl⟩, h.1.2⟩, h.2⟩
        by_cases ht : 0 ≤ t ∧ t ≤ 1048576
        · rw [w64 (n := 0 - t) (by omega)]; omega
        · omega
    simp only [vt7, VT.ok, Nd.holds, X.outs, X.ds, X.d, Op1.ev, Op2.ev, takeD_zero, takeD_cons, List.cons_append, List.nil_append, List.getD_cons_zero, List.getD_cons_succ, D.int_i, D.bool_b, D.lst_l, ite_b, ite_or, implies_true, true_and, and_true, takeD1_0, F21, R21, F8, R8, F9, R9, pathD, one, cL]
    show if ((((((((decide (100 < (xs.length : Int)) || !pathB xs) || decide (i < 0)) || decide ((xs.length : Int) ≤ i)) || decide (t < 0)) || decide (1048576 < t)) || decide (dx < IntKind.i64.wrap (0 - t))) || decide (t < dx))) = true then _ else _
    rw [if_pos hcond]; trivial
end Go.Proofs.Ytpnfcopgmeggoaa.rv
