/-
  Bounds of scenes; what is valid.
-/
import Derived.Test.YtpnfcopgmeggoaaRvSc6
namespace Go.Proofs.Ytpnfcopgmeggoaa.rv
open Go.RV

theorem boxy_of {s : TypeId} {I : List (List D)} (h : ∀ x ∈ I, FitsF [.int .i64, .int .i64, .int .i64, .int .i64, .int .i64, .int .i64, .sl s [.int .i64, .int .i64], .str] x) : boxy I 2 := fun i hi => by
  obtain ⟨k, o, a, b, c, d, l, t, e, _, _⟩ := fitsIt (h _ (getD_mem [] hi))
  simp only [cI, el]
  rw [e]
  exact ⟨rfl, rfl, rfl, rfl⟩
theorem boxy_of4 {I : List (List D)} (h : ∀ x ∈ I, FitsF [.int .i64, .int .i64, .int .i64, .int .i64] x) : boxy I 0 := fun i hi => by
  obtain ⟨x, y, z, w, e, hx, hy, hz, hw⟩ := fits4 (h _ (getD_mem [] hi))
  obtain ⟨_, rfl, _⟩ := wf_i64 hx
  obtain ⟨_, rfl, _⟩ := wf_i64 hy
  obtain ⟨_, rfl, _⟩ := wf_i64 hz
  obtain ⟨_, rfl, _⟩ := wf_i64 hw
  simp only [cI, el]
  rw [e]
  exact ⟨rfl, rfl, rfl, rfl⟩
theorem fitsS {s e : TypeId} {rest : List CT} {ds : List D} (h : FitsF (.int .i64 :: .int .i64 :: .int .i64 :: .int .i64 :: .sl e [.int .i64, .int .i64, .int .i64, .int .i64, .int .i64, .int .i64, .sl s [.int .i64, .int .i64], .str] :: rest) ds) :
    ∃ (a b c d : Int) (I : List (List D)) (ds' : List D), ds = .i a :: .i b :: .i c :: .i d :: .l I :: ds' ∧ FitsF rest ds' ∧ I.length ≤ maxLen ∧ ∀ x ∈ I, FitsF [.int .i64, .int .i64, .int .i64, .int .i64, .int .i64, .int .i64, .sl s [.int .i64, .int .i64], .str] x := by
  match ds, h with
  | x :: y :: z :: w :: l :: ds', ⟨h0, h1, h2, h3, h4, h5⟩ =>
    obtain ⟨a, rfl, _⟩ := wf_i64 h0
    obtain ⟨b, rfl, _⟩ := wf_i64 h1
    obtain ⟨c, rfl, _⟩ := wf_i64 h2
    obtain ⟨d, rfl, _⟩ := wf_i64 h3
    obtain ⟨I, rfl, hm, hI⟩ := wf_sl h4
    exact ⟨a, b, c, d, I, ds', rfl, h5, hm, hI⟩
theorem ibox_3 {x : List D} (h : cI x 0 = 3) : ibox x = if pathB (cL x 6) = true then some (bndQ (cL x 6)) else none := by rw [ibox, if_pos h]
theorem ibox_n {x : List D} (h : cI x 0 ≠ 3) : ibox x = if (knB x && bxQ (rQ x 2)) = true then some (rQ x 2) else none := by rw [ibox, if_neg h]
theorem loopM65_0 : LoopMeets Try.prog F (R L65_0.key) L65_0 lb65_0 := by
  refine loop_meets (pre := R) mixed (sgAt_all (P := Try.prog) (pre := R) (Φ := F) (l := sg65) (List.forall_mem_cons.2 ⟨Meets.at (pre := R) (Φ := F) m35, (fun _ h => nomatch h)⟩)) (loops_n 0 lk65_0 fun k hk => by omega) L65_0 (fun ρ => ((ρ.getD 2 default).int - (ρ.getD 3 default).int).toNat) le65_0 fun ρ _ hq => ?_
  obtain ⟨f, xs, a, b, c, d, j, rfl, hj, hm, hbx⟩ : prUn ρ := hq
  rw [maxLen_val] at hm
  by_cases hlt : j < xs.length
  · obtain ⟨e0, e1, e2, e3⟩ := hbx j hlt
    have hmu : ((xs.length : Int) - ((j + 1 : Nat) : Int)).toNat < ((xs.length : Int) - (j : Int)).toNat := by omega
    simp (disch := omega) only [rt65_0, VT.ok, Nd.holds, X.outs, X.ds, X.d, Op1.ev, Op2.ev, takeD_zero, takeD_cons, List.cons_append, List.nil_append, List.getD_cons_zero, List.getD_cons_succ, D.int_i, D.bool_b, D.lst_l, imin, imax, Int.toNat_natCast, implies_true, true_and, F35, R35, ↓reduceIte, dle_t, dlt_t, w64', fn35_eq, e0, e1, e2, e3]
    cases hb : bxB (cI (el xs j) 0) (cI (el xs j) (0 + 1)) (cI (el xs j) (0 + 2)) (cI (el xs j) (0 + 3))
    · simp only [Bool.not_false, if_true]
      refine round_next ⟨⟨f, xs, a, b, c, d, j + 1, rfl, by omega, hm, hbx⟩, hmu, ?_⟩
      show lpUn [.b f, .l xs, .i (xs.length : Int), .i ((j + 1 : Nat) : Int), .i a, .i b, .i c, .i d] = lpUn [.b f, .l xs, .i (xs.length : Int), .i (j : Int), .i a, .i b, .i c, .i d]
      have e : uniS xs j (!f, (a, b, c, d)) = uniS xs (j + 1) (!f, (a, b, c, d)) := by
        unfold uniS
        rw [fold_next hlt]
        have hb' : bxQ (rQ (el xs j) 0) = false := hb
        rw [hb']
        rfl
      simp only [lpUn, Int.toNat_natCast, e]
    · have hb' : bxQ (rQ (el xs j) 0) = true := hb
      simp only [Bool.not_true, Bool.false_eq_true, if_false]
      cases f
      · simp only [Bool.false_eq_true, if_false]
        refine round_next ⟨⟨false, xs, _, _, _, _, j + 1, rfl, by omega, hm, hbx⟩, hmu, ?_⟩
        have e : uniS xs j (true, (a, b, c, d)) = uniS xs (j + 1) (true, join (a, b, c, d) (rQ (el xs j) 0)) := by
          unfold uniS
          rw [fold_next hlt, hb']
          rfl
        show lpUn [.b false, .l xs, .i (xs.length : Int), .i ((j + 1 : Nat) : Int), .i (join (a, b, c, d) (rQ (el xs j) 0)).1, .i (join (a, b, c, d) (rQ (el xs j) 0)).2.1, .i (join (a, b, c, d) (rQ (el xs j) 0)).2.2.1, .i (join (a, b, c, d) (rQ (el xs j) 0)).2.2.2] = lpUn [.b false, .l xs, .i (xs.length : Int), .i (j : Int), .i a, .i b, .i c, .i d]
        simp only [lpUn, Int.toNat_natCast, Bool.not_false, e]
      · simp only [if_true]
        refine round_next ⟨⟨false, xs, _, _, _, _, j + 1, rfl, by omega, hm, hbx⟩, hmu, ?_⟩
        have e : uniS xs j (false, (a, b, c, d)) = uniS xs (j + 1) (true, rQ (el xs j) 0) := by
          unfold uniS
          rw [fold_next hlt, hb']
          rfl
        show lpUn [.b false, .l xs, .i (xs.length : Int), .i ((j + 1 : Nat) : Int), .i (rQ (el xs j) 0).1, .i (rQ (el xs j) 0).2.1, .i (rQ (el xs j) 0).2.2.1, .i (rQ (el xs j) 0).2.2.2] = lpUn [.b true, .l xs, .i (xs.length : Int), .i (j : Int), .i a, .i b, .i c, .i d]
        simp only [lpUn, Int.toNat_natCast, Bool.not_false, Bool.not_true, e]
  · have hj' : j = xs.length := by omega
    subst hj'
    simp (disch := omega) only [rt65_0, VT.ok, X.ds, X.d, Op2.ev, List.getD_cons_zero, List.getD_cons_succ, D.int_i, D.bool_b, Bool.false_eq_true, ↓reduceIte, dlt_f]
    refine round_exit (by omega) ?_
    show lpUn [.b f, .l xs, .i (xs.length : Int), .i (xs.length : Int), .i a, .i b, .i c, .i d] = _
    simp only [lpUn, Int.toNat_natCast, uniS, fold_end, Bool.not_not, dQ]
theorem m65 : Meets Try.prog 65 S65 (R 65) (F 65) := by
  refine meets_of_vt (pre := R) (Φ := F) mixed (sgAt_all (P := Try.prog) (pre := R) (Φ := F) (l := sg65) (List.forall_mem_cons.2 ⟨Meets.at (pre := R) (Φ := F) m35, (fun _ h => nomatch h)⟩)) Try.func65 b65 n65 (loops_n 1 k65 fun k hk => match k, hk with | 0, _ => loop_this lf65_0 loopM65_0) e65 fun ds hf _ => ?_
  obtain ⟨x, rfl, hx⟩ := fits1 hf.flat
  obtain ⟨xs, rfl, hm, hfx⟩ := wf_sl hx
  have hpre : prUn [.b true, .l xs, .i (xs.length : Int), .i 0, .i 0, .i 0, .i 0, .i 0] := ⟨true, xs, 0, 0, 0, 0, 0, rfl, by omega, hm, boxy_of4 hfx⟩
  simp only [vt65, VT.ok, Nd.holds, X.outs, X.ds, X.d, Op1.ev, List.cons_append, List.nil_append, List.getD_cons_zero, List.getD_cons_succ, D.bool_b, D.lst_l, F16500, R16500, F65]
  exact ⟨fun _ => hpre, rfl⟩
theorem loopM52_0 : LoopMeets Try.prog F (R L52_0.key) L52_0 lb52_0 := by
  refine loop_meets (pre := R) mixed (sgAt_all (P := Try.prog) (pre := R) (Φ := F) (l := sg52) (List.forall_mem_cons.2 ⟨Meets.at (pre := R) (Φ := F) m61, List.forall_mem_cons.2 ⟨Meets.at (pre := R) (Φ := F) m63, List.forall_mem_cons.2 ⟨Meets.at (pre := R) (Φ := F) m85, List.forall_mem_cons.2 ⟨Meets.at (pre := R) (Φ := F) m86, List.forall_mem_cons.2 ⟨Meets.at (pre := R) (Φ := F) m65, (fun _ h => nomatch h)⟩⟩⟩⟩⟩)) (loops_n 0 lk52_0 fun k hk => by omega) L52_0 (fun ρ => ((ρ.getD 1 default).int - (ρ.getD 2 default).int).toNat) le52_0 fun ρ _ hq => ?_
  obtain ⟨I, acc, j, rfl, hj, hm, hbx, hac⟩ : prBc ρ := hq
  by_cases hlt : j < I.length
  · obtain ⟨e0, e1, e2, e3⟩ := hbx j hlt
    have hmu : ((I.length : Int) - ((j + 1 : Nat) : Int)).toNat < ((I.length : Int) - (j : Int)).toNat := by omega
    have hn : ∀ acc' : List (List D), acc ++ bxRow (ibox (el I j)) = acc' → RoundOk F (R L52_0.key) (fun ρ => ((ρ.getD 1 default).int - (ρ.getD 2 default).int).toNat) L52_0 [.l I, .i (I.length : Int), .i (j : Int), .l acc] [.i (-1), .i ((j + 1 : Nat) : Int), .l acc'] := fun acc' h => by
      subst h
      refine round_next ⟨⟨I, _, j + 1, rfl, by omega, hm, hbx, ?_⟩, hmu, ?_⟩
      · rw [List.length_append]
        cases ibox (el I j) with
        | none => simp [bxRow]; omega
        | some q => simp [bxRow]; omega
      · show lpBc [.l I, .i (I.length : Int), .i ((j + 1 : Nat) : Int), .l (acc ++ bxRow (ibox (el I j)))] = lpBc [.l I, .i (I.length : Int), .i (j : Int), .l acc]
        simp only [lpBc, Int.toNat_natCast]
        rw [coll_next (i := j) hlt acc]
    have hkn : knB (el I j) = (decide (1 ≤ ((I.getD j []).getD 0 default).int) && decide (((I.getD j []).getD 0 default).int ≤ 4)) := rfl
    cases hk : knB (el I j)
    · have hib : ibox (el I j) = none := by
        have h3 : cI (el I j) 0 ≠ 3 := fun h => by
          rw [knB, h] at hk; cases hk
        rw [ibox_n h3, hk]; rfl
      rw [hkn] at hk
      simp (disch := omega) only [rt52_0, VT.ok, Nd.holds, X.outs, X.ds, X.d, Op1.ev, Op2.ev, takeD_zero, takeD_cons, List.cons_append, List.nil_append, List.getD_cons_zero, List.getD_cons_succ, D.int_i, D.bool_b, D.lst_l, Int.toNat_natCast, implies_true, true_and, F61, R61, ↓reduceIte, dle_t, dlt_t, w64', fn61_eq, hk, Bool.not_false]
      exact hn acc (by rw [hib]; simp [bxRow])
    · rw [hkn] at hk
      by_cases h3 : cI (el I j) 0 = 3
      · have h3' : ((I.getD j []).getD 0 default).int = 3 := h3
        have hib := ibox_3 h3
        have hp0 : pathB (cL [(I.getD j []).getD 6 default] 0) = pathB (cL (el I j) 6) := rfl
        simp (disch := omega) only [rt52_0, VT.ok, Nd.holds, X.outs, X.ds, X.d, Op1.ev, Op2.ev, takeD_zero, takeD_cons, List.cons_append, List.nil_append, List.getD_cons_zero, List.getD_cons_succ, D.int_i, D.bool_b, D.lst_l, Int.toNat_natCast, Bool.false_eq_true, implies_true, true_and, false_implies, F63, R63, F61, R61, F85, R85, R86, ↓reduceIte, dle_t, dlt_t, beq_t, w64', fn61_eq, Bool.not_true, fn63, vt63, VT.val, D.isT, beq_self_eq_true, Bool.true_and, Nat.reduceBEq, D.ptd, extL, List.length_append, List.length_cons, List.length_nil]
        refine ⟨by intros; exact ⟨_, _, rfl⟩, ?_⟩
        show if pathB (cL (el I j) 6) = true then _ else _
        split
        · rename_i hp
          exact hn _ (by rw [hib, if_pos hp]; rfl)
        · rename_i hp
          exact hn _ (by rw [hib, if_neg hp]; exact List.append_nil _)
      · have h3' : ((I.getD j []).getD 0 default).int ≠ 3 := h3
        have hib := ibox_n h3
        rw [hkn, hk, Bool.true_and] at hib
        have e0' : (I.getD j []).getD 2 default = .i (rQ (el I j) 2).1 := e0
        have e1' : (I.getD j []).getD 3 default = .i (rQ (el I j) 2).2.1 := e1
        have e2' : (I.getD j []).getD 4 default = .i (rQ (el I j) 2).2.2.1 := e2
        have e3' : (I.getD j []).getD 5 default = .i (rQ (el I j) 2).2.2.2 := e3
        simp (disch := omega) only [rt52_0, VT.ok, Nd.holds, X.outs, X.ds, X.d, Op1.ev, Op2.ev, takeD_zero, takeD_cons, List.cons_append, List.nil_append, List.getD_cons_zero, List.getD_cons_succ, D.int_i, D.bool_b, D.lst_l, Int.toNat_natCast, Bool.false_eq_true, implies_true, true_and, false_implies, F63, R63, F61, R61, R85, F86, R86, ↓reduceIte, dle_t, dlt_t, beq_f, w64', fn61_eq, hk, Bool.not_true, fn63, vt63, VT.val, D.isT, beq_self_eq_true, Nat.reduceBEq, D.ptd, fn86_eq, List.length_append, List.length_cons, List.length_nil, e0', e1', e2', e3']
        refine ⟨by intros; exact ⟨_, _, rfl⟩, ?_⟩
        show if bxQ (rQ (el I j) 2) = true then _ else _
        split
        · rename_i hp
          exact hn _ (by rw [hib, if_pos hp]; rfl)
        · rename_i hp
          exact hn _ (by rw [hib, if_neg hp]; exact List.append_nil _)
  · have hj' : j = I.length := by omega
    subst hj'
    simp (disch := omega) only [rt52_0, VT.ok, X.ds, X.d, Op2.ev, List.getD_cons_zero, List.getD_cons_succ, D.int_i, D.bool_b, Bool.false_eq_true, ↓reduceIte, dlt_f]
    refine round_exit (by omega) ?_
    show lpBc [.l I, .i (I.length : Int), .i (I.length : Int), .l acc] = _
    simp only [lpBc, Int.toNat_natCast, coll_end]
theorem m52 : Meets Try.prog 52 S52 (R 52) (F 52) := by
  refine meets_of_vt (pre := R) (Φ := F) mixed (sgAt_all (P := Try.prog) (pre := R) (Φ := F) (l := sg52) (List.forall_mem_cons.2 ⟨Meets.at (pre := R) (Φ := F) m61, List.forall_mem_cons.2 ⟨Meets.at (pre := R) (Φ := F) m63, List.forall_mem_cons.2 ⟨Meets.at (pre := R) (Φ := F) m85, List.forall_mem_cons.2 ⟨Meets.at (pre := R) (Φ := F) m86, List.forall_mem_cons.2 ⟨Meets.at (pre := R) (Φ := F) m65, (fun _ h => nomatch h)⟩⟩⟩⟩⟩)) Try.func52 b52 n52 (loops_n 1 k52 fun k hk => match k, hk with | 0, _ => loop_this lf52_0 loopM52_0) e52 fun ds hf hq => ?_
  obtain ⟨x, rfl, hx⟩ := fits1 hf.flat
  obtain ⟨I, rfl, hm, hfx⟩ := wf_sl hx
  have hm : I.length ≤ 1000000 := hq
  have hpre : prBc [.l I, .i (I.length : Int), .i 0, .l []] := ⟨I, [], 0, rfl, by omega, hm, boxy_of hfx, by simp⟩
  simp only [vt52, VT.ok, Nd.holds, X.outs, X.ds, X.d, Op1.ev, List.cons_append, List.nil_append, List.getD_cons_zero, List.getD_cons_succ, D.bool_b, D.lst_l, implies_true, true_and, F15200, R15200, F65, R65, F52]
  refine ⟨fun _ => hpre, ?_⟩
  have e : lpBc [.l I, .i (I.length : Int), .i 0, .l []] = [.i 0, .i (I.length : Int), .l (collN (fun j => bxRow (ibox (el I j))) I.length 0)] := rfl
  rw [e]
  show dQ (uniS (collN (fun j => bxRow (ibox (el I j))) I.length 0) 0 (false, z4)).2 = dQ (bndS I)
  rw [uni_coll]
  rfl
theorem loopM30_0 : LoopMeets Try.prog F (R L30_0.key) L30_0 lb30_0 := by
  refine loop_meets (pre := R) mixed (sgAt_all (P := Try.prog) (pre := R) (Φ := F) (l := sg30) (List.forall_mem_cons.2 ⟨Meets.at (pre := R) (Φ := F) m51, List.forall_mem_cons.2 ⟨Meets.at (pre := R) (Φ := F) m52, (fun _ h => nomatch h)⟩⟩)) (loops_n 0 lk30_0 fun k hk => by omega) L30_0 (fun ρ => ((ρ.getD 2 default).int - (ρ.getD 3 default).int).toNat) le30_0 fun ρ _ hq => ?_
  obtain ⟨v, I, j, rfl, hj, hm⟩ : prVc ρ := hq
  rw [maxLen_val] at hm
  by_cases hlt : j < I.length
  · have hN : itemE (el I j) = 0 → RoundOk F (R L30_0.key) (fun ρ => ((ρ.getD 2 default).int - (ρ.getD 3 default).int).toNat) L30_0 [v, .l I, .i (I.length : Int), .i (j : Int)] [.i (-1), v, .i ((j + 1 : Nat) : Int)] := fun h0 => by
      refine round_next ⟨⟨v, I, j + 1, rfl, by omega, hm⟩, ?_, ?_⟩
      · show ((I.length : Int) - ((j + 1 : Nat) : Int)).toNat < ((I.length : Int) - (j : Int)).toNat
        omega
      · show lpVc [v, .l I, .i (I.length : Int), .i ((j + 1 : Nat) : Int)] = lpVc [v, .l I, .i (I.length : Int), .i (j : Int)]
        simp only [lpVc, errLp, Int.toNat_natCast]
        exact scan_next hlt (by simp only [er, h0]; rfl)
    have hX : ∀ z : Int, itemE (el I j) = z → z ≠ 0 → RoundOk F (R L30_0.key) (fun ρ => ((ρ.getD 2 default).int - (ρ.getD 3 default).int).toNat) L30_0 [v, .l I, .i (I.length : Int), .i (j : Int)] [.i 0, .i z, .i (j : Int)] := fun z h0 hz => by
      refine round_exit (by omega) ?_
      show lpVc [v, .l I, .i (I.length : Int), .i (j : Int)] = _
      simp only [lpVc, errLp, Int.toNat_natCast]
      rw [← h0]
      exact scan_hit hlt (by simp only [er, h0]; simpa using hz)
    have e8 : itmD [(I.getD j []).getD 0 default, (I.getD j []).getD 1 default, (I.getD j []).getD 2 default, (I.getD j []).getD 3 default, (I.getD j []).getD 4 default, (I.getD j []).getD 5 default, (I.getD j []).getD 6 default, (I.getD j []).getD 7 default] = [.i (itemE (el I j))] := rfl
    simp (disch := omega) only [rt30_0, VT.ok, Nd.holds, X.outs, X.ds, X.d, Op1.ev, Op2.ev, takeD_zero, takeD_cons, List.cons_append, List.nil_append, List.getD_cons_zero, List.getD_cons_succ, D.int_i, D.bool_b, D.lst_l, Int.toNat_natCast, implies_true, true_and, F51, R51, ↓reduceIte, dle_t, dlt_t, w64', e8]
    by_cases h0 : itemE (el I j) = 0
    · rw [beq_t h0, Bool.not_true, if_neg (by decide)]; exact hN h0
    · rw [beq_f h0, Bool.not_false, if_pos rfl]; exact hX _ rfl h0
  · have hj' : j = I.length := by omega
    subst hj'
    simp (disch := omega) only [rt30_0, VT.ok, X.ds, X.d, Op2.ev, List.getD_cons_zero, List.getD_cons_succ, D.int_i, D.bool_b, Bool.false_eq_true, ↓reduceIte, dlt_f]
    refine round_exit (by omega) ?_
    show lpVc [v, .l I, .i (I.length : Int), .i (I.length : Int)] = _
    simp only [lpVc, errLp, Int.toNat_natCast]
    exact scan_end
theorem m30 : Meets Try.prog 30 S30 (R 30) (F 30) := by
  refine meets_of_vt (pre := R) (Φ := F) mixed (sgAt_all (P := Try.prog) (pre := R) (Φ := F) (l := sg30) (List.forall_mem_cons.2 ⟨Meets.at (pre := R) (Φ := F) m51, List.forall_mem_cons.2 ⟨Meets.at (pre := R) (Φ := F) m52, (fun _ h => nomatch h)⟩⟩)) Try.func30 b30 n30 (loops_n 1 k30 fun k hk => match k, hk with | 0, _ => loop_this lf30_0 loopM30_0) e30 fun ds hf _ => ?_
  obtain ⟨a, b, c, d, I, ds', rfl, h5, hm, hfx⟩ := fitsS hf.flat
  obtain rfl := fits0 h5
  have hval : valD [.i a, .i b, .i c, .i d, .l I] = [.i (validS I (a, b, c, d))] := rfl
  rw [show F 30 = valD from rfl, hval]
  by_cases h1 : 2048 < (I.length : Int)
  · simp (disch := omega) only [vt30, VT.ok, X.ds, X.d, Op1.ev, Op2.ev, List.getD_cons_zero, List.getD_cons_succ, D.int_i, D.bool_b, D.lst_l, ↓reduceIte, dlt_t, validS, if_pos h1]
  · have hpre : prVc [.i 0, .l I, .i (I.length : Int), .i 0] := ⟨_, I, 0, rfl, by omega, hm⟩
    have hbp : bdPre [.l I] := by show I.length ≤ 1000000; omega
    have hlp : lpVc [.i 0, .l I, .i (I.length : Int), .i 0] = errLp (fun j => itemE (el I j)) (.i 0) I.length 0 := rfl
    rw [validS, if_neg h1]
    rcases errLp_two (fun j => itemE (el I j)) (.i 0) I.length with ⟨k1, k2⟩ | ⟨k1, k2, k3⟩
    · rw [if_neg k1]
      simp (disch := omega) only [vt30, VT.ok, Nd.holds, X.outs, X.ds, X.d, Op1.ev, Op2.ev, takeD_zero, takeD_cons, List.cons_append, List.nil_append, List.getD_cons_zero, List.getD_cons_succ, D.int_i, D.bool_b, D.lst_l, Bool.false_eq_true, and_true, F13000, R13000, ↓reduceIte, dlt_f, beq_t, hlp, k2]
      exact fun _ => hpre
    · rw [if_pos k1]
      have hs : ((a == (bndS I).1) && ((b == (bndS I).2.1) && ((c == (bndS I).2.2.1) && (d == (bndS I).2.2.2)))) = sameQ (bndS I) (a, b, c, d) := sameQ_symm (a, b, c, d) (bndS I)
      simp (disch := omega) only [vt30, VT.ok, Nd.holds, X.outs, X.ds, X.d, Op1.ev, Op2.ev, takeD_zero, takeD_cons, List.cons_append, List.nil_append, List.getD_cons_zero, List.getD_cons_succ, D.int_i, D.bool_b, D.lst_l, ite_b, ite_and, Bool.false_eq_true, F52, R52, F13000, R13000, ↓reduceIte, dlt_f, beq_f, hlp, k3, bdsD, dQ, cL, hs]
      refine ⟨fun _ => hpre, fun _ => hbp, ?_⟩
      cases sameQ (bndS I) (a, b, c, d) <;> rfl
end Go.Proofs.Ytpnfcopgmeggoaa.rv
