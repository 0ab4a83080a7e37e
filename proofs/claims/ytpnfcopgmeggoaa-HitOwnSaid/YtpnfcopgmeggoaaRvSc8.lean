/-
  Bounds of scenes and valid scenes: the reference.
-/
import Derived.Test.YtpnfcopgmeggoaaRvSc7
namespace Go.Proofs.Ytpnfcopgmeggoaa.rv
open Go.RV

theorem loopM34_0 : LoopMeets Try.prog F (R L34_0.key) L34_0 lb34_0 := by
  refine loop_meets (pre := R) mixed (sgAt_all (P := Try.prog) (pre := R) (Φ := F) (l := sg34) (List.forall_mem_cons.2 ⟨Meets.at (pre := R) (Φ := F) m55, List.forall_mem_cons.2 ⟨Meets.at (pre := R) (Φ := F) m39, List.forall_mem_cons.2 ⟨Meets.at (pre := R) (Φ := F) m21, (fun _ h => nomatch h)⟩⟩⟩)) (loops_n 0 lk34_0 fun k hk => by omega) L34_0 (fun ρ => (((ρ.getD 0 default).lst.length : Int) - (ρ.getD 2 default).int).toNat) le34_0 fun ρ _ hq => ?_
  obtain ⟨I, f, a, b, c, d, j, rfl, hj, hm, hbx⟩ : prBo ρ := hq
  rw [maxLen_val] at hm
  by_cases hlt : j < I.length
  · obtain ⟨e0, e1, e2, e3⟩ := hbx j hlt
    have hmu : ((I.length : Int) - ((j + 1 : Nat) : Int)).toNat < ((I.length : Int) - (j : Int)).toNat := by omega
    have hn : ∀ (f' : Bool) (q : Bx), stepB (f, (a, b, c, d)) (ibox (el I j)) = (f', q) → RoundOk F (R L34_0.key) (fun ρ => (((ρ.getD 0 default).lst.length : Int) - (ρ.getD 2 default).int).toNat) L34_0 [.l I, .b f, .i (j : Int), .i a, .i b, .i c, .i d] [.i (-1), .b f', .i ((j + 1 : Nat) : Int), .i q.1, .i q.2.1, .i q.2.2.1, .i q.2.2.2] := fun f' q h => by
      refine round_next ⟨⟨I, f', _, _, _, _, j + 1, rfl, by omega, hm, hbx⟩, hmu, ?_⟩
      show lpBo [.l I, .b f', .i ((j + 1 : Nat) : Int), .i q.1, .i q.2.1, .i q.2.2.1, .i q.2.2.2] = lpBo [.l I, .b f, .i (j : Int), .i a, .i b, .i c, .i d]
      have e : foldB I j (f, (a, b, c, d)) = foldB I (j + 1) (f', q) := by
        unfold foldB
        rw [fold_next hlt, h]
      simp only [lpBo, Int.toNat_natCast, e]
    by_cases h3 : cI (el I j) 0 = 3
    · have h3' : ((I.getD j []).getD 0 default).int = 3 := h3
      have hb0 : bndD [(I.getD j []).getD 6 default] = dQ (bndQ (cL (el I j) 6)) := rfl
      have hp0 : pathD [(I.getD j []).getD 6 default] = [.b (pathB (cL (el I j) 6))] := rfl
      have hib := ibox_3 h3
      cases hp : pathB (cL (el I j) 6)
      · rw [hp, if_neg (by decide)] at hib
        simp (disch := omega) only [rt34_0, VT.ok, Nd.holds, X.outs, X.ds, X.d, Op1.ev, Op2.ev, takeD_zero, takeD_cons, List.cons_append, List.nil_append, List.getD_cons_zero, List.getD_cons_succ, D.int_i, D.bool_b, D.lst_l, Int.toNat_natCast, Bool.false_eq_true, implies_true, true_and, F55, R55, F21, R21, F39, R39, ↓reduceIte, dle_t, dlt_t, beq_t, w64', hb0, hp0, hp, dQ, fn55_eq]
        exact hn f (a, b, c, d) (by rw [hib]; rfl)
      · rw [hp, if_pos rfl] at hib
        cases f
        · simp (disch := omega) only [rt34_0, VT.ok, Nd.holds, X.outs, X.ds, X.d, Op1.ev, Op2.ev, takeD_zero, takeD_cons, List.cons_append, List.nil_append, List.getD_cons_zero, List.getD_cons_succ, D.int_i, D.bool_b, D.lst_l, Int.toNat_natCast, implies_true, true_and, F55, R55, F21, R21, F39, R39, ↓reduceIte, dle_t, dlt_t, beq_t, w64', hb0, hp0, hp, dQ, Bool.not_false, fn55_eq]
          exact hn true (bndQ (cL (el I j) 6)) (by rw [hib]; rfl)
        · simp (disch := omega) only [rt34_0, VT.ok, Nd.holds, X.outs, X.ds, X.d, Op1.ev, Op2.ev, takeD_zero, takeD_cons, List.cons_append, List.nil_append, List.getD_cons_zero, List.getD_cons_succ, D.int_i, D.bool_b, D.lst_l, imin, imax, Int.toNat_natCast, Bool.false_eq_true, implies_true, true_and, F55, R55, F21, R21, F39, R39, ↓reduceIte, dle_t, dlt_t, beq_t, w64', hb0, hp0, hp, dQ, Bool.not_true, fn55_eq]
          exact hn true (join (a, b, c, d) (bndQ (cL (el I j) 6))) (by rw [hib]; rfl)
    · have h3' : ((I.getD j []).getD 0 default).int ≠ 3 := h3
      have hib := ibox_n h3
      have e0' : (I.getD j []).getD 2 default = .i (rQ (el I j) 2).1 := e0
      have e1' : (I.getD j []).getD 3 default = .i (rQ (el I j) 2).2.1 := e1
      have e2' : (I.getD j []).getD 4 default = .i (rQ (el I j) 2).2.2.1 := e2
      have e3' : (I.getD j []).getD 5 default = .i (rQ (el I j) 2).2.2.2 := e3
      obtain ⟨k, hk⟩ : ∃ k, (decide (1 ≤ ((I.getD j []).getD 0 default).int) && decide (((I.getD j []).getD 0 default).int ≤ 4)) = k := ⟨_, rfl⟩
      have hkn : knB (el I j) = k := hk
      have hv : bxB (rQ (el I j) 2).1 (rQ (el I j) 2).2.1 (rQ (el I j) 2).2.2.1 (rQ (el I j) 2).2.2.2 = bxQ (rQ (el I j) 2) := rfl
      rw [hkn] at hib
      cases hp : (k && bxQ (rQ (el I j) 2))
      · rw [hp, if_neg (by decide)] at hib
        simp (disch := omega) only [rt34_0, VT.ok, Nd.holds, X.outs, X.ds, X.d, Op1.ev, Op2.ev, takeD_zero, takeD_cons, List.cons_append, List.nil_append, List.getD_cons_zero, List.getD_cons_succ, D.int_i, D.bool_b, D.lst_l, ite_b, ite_and, Int.toNat_natCast, Bool.false_eq_true, implies_true, true_and, F55, R55, ↓reduceIte, dle_t, dlt_t, beq_f, w64', e0', e1', e2', e3', hk, hv, hp, fn55_eq]
        exact hn f (a, b, c, d) (by rw [hib]; rfl)
      · rw [hp, if_pos rfl] at hib
        cases f
        · simp (disch := omega) only [rt34_0, VT.ok, Nd.holds, X.outs, X.ds, X.d, Op1.ev, Op2.ev, takeD_zero, takeD_cons, List.cons_append, List.nil_append, List.getD_cons_zero, List.getD_cons_succ, D.int_i, D.bool_b, D.lst_l, ite_b, ite_and, Int.toNat_natCast, Bool.false_eq_true, implies_true, true_and, F55, R55, ↓reduceIte, dle_t, dlt_t, beq_f, w64', e0', e1', e2', e3', hk, hv, hp, Bool.not_false, fn55_eq]
          exact hn true (rQ (el I j) 2) (by rw [hib]; rfl)
        · simp (disch := omega) only [rt34_0, VT.ok, Nd.holds, X.outs, X.ds, X.d, Op1.ev, Op2.ev, takeD_zero, takeD_cons, List.cons_append, List.nil_append, List.getD_cons_zero, List.getD_cons_succ, D.int_i, D.bool_b, D.lst_l, ite_b, ite_and, imin, imax, Int.toNat_natCast, Bool.false_eq_true, implies_true, true_and, F55, R55, ↓reduceIte, dle_t, dlt_t, beq_f, w64', e0', e1', e2', e3', hk, hv, hp, Bool.not_true, fn55_eq]
          exact hn true (join (a, b, c, d) (rQ (el I j) 2)) (by rw [hib]; rfl)
  · have hj' : j = I.length := by omega
    subst hj'
    simp (disch := omega) only [rt34_0, VT.ok, X.ds, X.d, Op1.ev, Op2.ev, List.getD_cons_zero, List.getD_cons_succ, D.int_i, D.bool_b, D.lst_l, Bool.false_eq_true, ↓reduceIte, dlt_f]
    refine round_exit (by omega) ?_
    show lpBo [.l I, .b f, .i (I.length : Int), .i a, .i b, .i c, .i d] = _
    simp only [lpBo, Int.toNat_natCast, foldB, fold_end, dQ]
theorem m34 : Meets Try.prog 34 S34 (R 34) (F 34) := by
  refine meets_of_vt (pre := R) (Φ := F) mixed (sgAt_all (P := Try.prog) (pre := R) (Φ := F) (l := sg34) (List.forall_mem_cons.2 ⟨Meets.at (pre := R) (Φ := F) m55, List.forall_mem_cons.2 ⟨Meets.at (pre := R) (Φ := F) m39, List.forall_mem_cons.2 ⟨Meets.at (pre := R) (Φ := F) m21, (fun _ h => nomatch h)⟩⟩⟩)) Try.func34 b34 n34 (loops_n 1 k34 fun k hk => match k, hk with | 0, _ => loop_this lf34_0 loopM34_0) e34 fun ds hf _ => ?_
  obtain ⟨x, rfl, hx⟩ := fits1 hf.flat
  obtain ⟨I, rfl, hm, hfx⟩ := wf_sl hx
  have hpre : prBo [.l I, .b false, .i 0, .i 0, .i 0, .i 0, .i 0] := ⟨I, false, 0, 0, 0, 0, 0, rfl, by omega, hm, boxy_of hfx⟩
  simp only [vt34, VT.ok, Nd.holds, X.outs, X.ds, X.d, List.cons_append, List.nil_append, List.getD_cons_zero, List.getD_cons_succ, D.bool_b, F13400, R13400, F34]
  exact ⟨fun _ => hpre, rfl⟩
theorem loopM17_0 : LoopMeets Try.prog F (R L17_0.key) L17_0 lb17_0 := by
  refine loop_meets (pre := R) mixed (sgAt_all (P := Try.prog) (pre := R) (Φ := F) (l := sg17) (List.forall_mem_cons.2 ⟨Meets.at (pre := R) (Φ := F) m33, List.forall_mem_cons.2 ⟨Meets.at (pre := R) (Φ := F) m34, (fun _ h => nomatch h)⟩⟩)) (loops_n 0 lk17_0 fun k hk => by omega) L17_0 (fun ρ => (((ρ.getD 6 default).lst.length : Int) - (ρ.getD 1 default).int).toNat) le17_0 fun ρ _ hq => ?_
  obtain ⟨v, a, b, c, d, I, j, rfl, hj, hm⟩ : prVr ρ := hq
  rw [maxLen_val] at hm
  by_cases hlt : j < I.length
  · have hN : itemE (el I j) = 0 → RoundOk F (R L17_0.key) (fun ρ => (((ρ.getD 6 default).lst.length : Int) - (ρ.getD 1 default).int).toNat) L17_0 [v, .i (j : Int), a, b, c, d, .l I] [.i (-1), v, .i ((j + 1 : Nat) : Int)] := fun h0 => by
      refine round_next ⟨⟨v, a, b, c, d, I, j + 1, rfl, by omega, hm⟩, ?_, ?_⟩
      · show ((I.length : Int) - ((j + 1 : Nat) : Int)).toNat < ((I.length : Int) - (j : Int)).toNat
        omega
      · show lpVr [v, .i ((j + 1 : Nat) : Int), a, b, c, d, .l I] = lpVr [v, .i (j : Int), a, b, c, d, .l I]
        simp only [lpVr, errLp, Int.toNat_natCast]
        exact scan_next hlt (by simp only [er, h0]; rfl)
    have hX : ∀ z : Int, itemE (el I j) = z → z ≠ 0 → RoundOk F (R L17_0.key) (fun ρ => (((ρ.getD 6 default).lst.length : Int) - (ρ.getD 1 default).int).toNat) L17_0 [v, .i (j : Int), a, b, c, d, .l I] [.i 0, .i z, .i (j : Int)] := fun z h0 hz => by
      refine round_exit (by omega) ?_
      show lpVr [v, .i (j : Int), a, b, c, d, .l I] = _
      simp only [lpVr, errLp, Int.toNat_natCast]
      rw [← h0]
      exact scan_hit hlt (by simp only [er, h0]; simpa using hz)
    have e8 : itmD [(I.getD j []).getD 0 default, (I.getD j []).getD 1 default, (I.getD j []).getD 2 default, (I.getD j []).getD 3 default, (I.getD j []).getD 4 default, (I.getD j []).getD 5 default, (I.getD j []).getD 6 default, (I.getD j []).getD 7 default] = [.i (itemE (el I j))] := rfl
    simp (disch := omega) only [rt17_0, VT.ok, Nd.holds, X.outs, X.ds, X.d, Op1.ev, Op2.ev, takeD_zero, takeD_cons, List.cons_append, List.nil_append, List.getD_cons_zero, List.getD_cons_succ, D.int_i, D.bool_b, D.lst_l, Int.toNat_natCast, implies_true, true_and, F33, R33, ↓reduceIte, dle_t, dlt_t, w64', e8]
    by_cases h0 : itemE (el I j) = 0
    · rw [beq_t h0, Bool.not_true, if_neg (by decide)]; exact hN h0
    · rw [beq_f h0, Bool.not_false, if_pos rfl]; exact hX _ rfl h0
  · have hj' : j = I.length := by omega
    subst hj'
    simp (disch := omega) only [rt17_0, VT.ok, X.ds, X.d, Op1.ev, Op2.ev, List.getD_cons_zero, List.getD_cons_succ, D.int_i, D.bool_b, D.lst_l, Bool.false_eq_true, ↓reduceIte, dlt_f]
    refine round_exit (by omega) ?_
    show lpVr [v, .i (I.length : Int), a, b, c, d, .l I] = _
    simp only [lpVr, errLp, Int.toNat_natCast]
    exact scan_end
theorem m17 : Meets Try.prog 17 S17 (R 17) (F 17) := by
  refine meets_of_vt (pre := R) (Φ := F) mixed (sgAt_all (P := Try.prog) (pre := R) (Φ := F) (l := sg17) (List.forall_mem_cons.2 ⟨Meets.at (pre := R) (Φ := F) m33, List.forall_mem_cons.2 ⟨Meets.at (pre := R) (Φ := F) m34, (fun _ h => nomatch h)⟩⟩)) Try.func17 b17 n17 (loops_n 1 k17 fun k hk => match k, hk with | 0, _ => loop_this lf17_0 loopM17_0) e17 fun ds hf _ => ?_
  obtain ⟨a, b, c, d, I, ds', rfl, h5, hm, hfx⟩ := fitsS hf.flat
  obtain rfl := fits0 h5
  have hval : valD [.i a, .i b, .i c, .i d, .l I] = [.i (validS I (a, b, c, d))] := rfl
  rw [show F 17 = valD from rfl, hval]
  by_cases h1 : 2048 < (I.length : Int)
  · simp (disch := omega) only [vt17, VT.ok, X.ds, X.d, Op1.ev, Op2.ev, List.getD_cons_zero, List.getD_cons_succ, D.int_i, D.bool_b, D.lst_l, ↓reduceIte, dlt_t, validS, if_pos h1]
  · have hpre : prVr [.i 0, .i 0, .i a, .i b, .i c, .i d, .l I] := ⟨_, _, _, _, _, I, 0, rfl, by omega, hm⟩
    have hlp : lpVr [.i 0, .i 0, .i a, .i b, .i c, .i d, .l I] = errLp (fun j => itemE (el I j)) (.i 0) I.length 0 := rfl
    rw [validS, if_neg h1]
    rcases errLp_two (fun j => itemE (el I j)) (.i 0) I.length with ⟨k1, k2⟩ | ⟨k1, k2, k3⟩
    · rw [if_neg k1]
      simp (disch := omega) only [vt17, VT.ok, Nd.holds, X.outs, X.ds, X.d, Op1.ev, Op2.ev, takeD_zero, takeD_cons, List.cons_append, List.nil_append, List.getD_cons_zero, List.getD_cons_succ, D.int_i, D.bool_b, D.lst_l, Bool.false_eq_true, and_true, F11700, R11700, ↓reduceIte, dlt_f, beq_t, hlp, k2]
      exact fun _ => hpre
    · rw [if_pos k1]
      have hs : (((bndS I).1 == a) && (((bndS I).2.1 == b) && (((bndS I).2.2.1 == c) && ((bndS I).2.2.2 == d)))) = sameQ (bndS I) (a, b, c, d) := rfl
      simp (disch := omega) only [vt17, VT.ok, Nd.holds, X.outs, X.ds, X.d, Op1.ev, Op2.ev, takeD_zero, takeD_cons, List.cons_append, List.nil_append, List.getD_cons_zero, List.getD_cons_succ, D.int_i, D.bool_b, D.lst_l, ite_b, ite_and, Bool.false_eq_true, implies_true, true_and, F34, R34, F11700, R11700, ↓reduceIte, dlt_f, beq_f, hlp, k3, bdsD, dQ, cL, hs]
      refine ⟨fun _ => hpre, ?_⟩
      cases sameQ (bndS I) (a, b, c, d) <;> rfl
end Go.Proofs.Ytpnfcopgmeggoaa.rv
