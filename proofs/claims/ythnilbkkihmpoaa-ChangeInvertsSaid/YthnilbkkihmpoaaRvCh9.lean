/-
  Changes of graphs: the first laws.
-/
import Derived.Test.YthnilbkkihmpoaaRvCh8
namespace Go.Proofs.Ythnilbkkihmpoaa.rv
open Go.RV
set_option maxRecDepth 10000

def awG : List D := [.s ⟨#[103]⟩, .b false, .l [[.s ⟨#[97]⟩, .s ⟨#[97]⟩, .i 5, .i 5, .i (-1), .l []], [.s ⟨#[98]⟩, .s ⟨#[97]⟩, .i 5, .i 5, .i (-1), .l []]], .l [[.i 0, .i 1, .i (-1), .i (-1), .s ⟨#[]⟩, .i 1, .i 1], [.i 1, .i 1, .i (-1), .i (-1), .s ⟨#[]⟩, .i 1, .i 1]], .l [], .i 2, .i 0, .s ⟨#[]⟩, .s ⟨#[]⟩, .i 0, .i 0, .i 0, .l [], .i 0, .i 0, .i 0, .i 0, .s ⟨#[]⟩, .i 0, .i 0]
theorem aw1 : applyD awG = [.s ⟨#[103]⟩, .b false, .l [[.s ⟨#[98]⟩, .s ⟨#[97]⟩, .i 5, .i 5, .i (-1), .l []]], .l [[.i 0, .i 0, .i (-1), .i (-1), .s ⟨#[]⟩, .i 1, .i 1]], .l [], .i 0] := by kernel_rfl
theorem aw2 : invD awG = [.l [], .i 1] := by kernel_rfl
theorem m9 : Meets Try.prog 9 S9 (R 9) (F 9) := by
  refine meets_of_vt (pre := R) (Φ := F) mixed (sgAt_all (P := Try.prog) (pre := R) (Φ := F) (l := sg9) (List.forall_mem_cons.2 ⟨Meets.at (pre := R) (Φ := F) m10, List.forall_mem_cons.2 ⟨Meets.at (pre := R) (Φ := F) m13, (fun _ h => nomatch h)⟩⟩)) Try.func9 b9 n9 (loops_n 0 k9 fun k hk => by omega) e9 fun ds hf hq => ?_
  have e0 := fits0 hf.flat
  subst e0
  have hp : prApply awG := by show (0 : Nat) ≤ 1000000; omega
  have a1 := aw1
  have a2 := aw2
  unfold awG at a1 a2 hp
  simp only [vt9, VT.ok, Nd.holds, X.outs, X.ds, X.d, Op1.ev, Op2.ev, takeD_zero, takeD_cons, List.cons_append, List.nil_append, List.getD_cons_zero, List.getD_cons_succ, D.int_i, D.bool_b, D.lst_l, D.str_s, ite_b, ite_and, F10, R10, F13, R13, F9, a1, a2]
  exact ⟨fun _ => hp, fun _ => hp, fun _ => rfl, fun _ => rfl, rfl⟩
theorem sameL (g h : Gd) : sameD [.s g.nm, .b g.dr, .l g.N, .l g.E, .l g.C, .s h.nm, .b h.dr, .l h.N, .l h.E, .l h.C] = [.b (sameG g h)] := rfl
theorem fewLx (g : Gd) (l : List (List D)) : fewD [.s g.nm, .b g.dr, .l g.N, .l g.E, .l g.C, .l l] = [.b (fewB g l)] := rfl
theorem few_ports {g : Gd} {l : List (List D)} (h : fewB g l = true) : l.length ≤ 20 ∧ ∀ i, i < l.length → (cL (el l i) 7).length ≤ 20 := by
  simp only [fewB, Bool.and_eq_true, Bool.not_eq_true', Bool.or_eq_false_iff, decide_eq_false_iff_not, anyN_false] at h
  obtain ⟨⟨_, h1⟩, _, h2⟩ := h
  refine ⟨by omega, fun i hi => ?_⟩
  have := h2 i hi
  simp only [fewL, decide_eq_false_iff_not] at this
  omega
theorem invL (g : Gd) (x : List D) : invD (.s g.nm :: .b g.dr :: .l g.N :: .l g.E :: .l g.C :: x) = [.l (invG g x).1, .i (invG g x).2] := rfl
theorem law3 : Meets Try.prog 3 S3 (fun _ => True) (fun _ => [.b true]) := by
  refine meets_of_vt (pre := R) (Φ := F) mixed (sgAt_all (P := Try.prog) (pre := R) (Φ := F) (l := sg3) (List.forall_mem_cons.2 ⟨Meets.at (pre := R) (Φ := F) m8, List.forall_mem_cons.2 ⟨Meets.at (pre := R) (Φ := F) m9, List.forall_mem_cons.2 ⟨Meets.at (pre := R) (Φ := F) m10, List.forall_mem_cons.2 ⟨Meets.at (pre := R) (Φ := F) m11, List.forall_mem_cons.2 ⟨Meets.at (pre := R) (Φ := F) m12, (fun _ h => nomatch h)⟩⟩⟩⟩⟩)) Try.func3 b3 n3 (loops_n 0 k3 fun k hk => by omega) e3 fun ds hf _ => ?_
  obtain ⟨g, ds', rfl, h5, _, _⟩ := fitsG hf.flat
  obtain ⟨Y, ds'', rfl, hY, hat, h6⟩ := fitsX h5
  have e0 := fits0 h6
  subst e0
  rw [List.append_nil] at *
  have hA := applyL g Y
  have hfw := fewLx g [Y]
  cases hb : fewB g [Y] with
  | true =>
    rw [hb] at hfw
    have hps := (few_ports hb).2 0 (by simp)
    have hpA : prApply (.s g.nm :: .b g.dr :: .l g.N :: .l g.E :: .l g.C :: Y) := by
      show (cL Y 7).length ≤ 1000000
      have : (cL Y 7).length ≤ 20 := hps
      omega
    have hs := sameL (applyG g Y).1 (applyG g Y).1
    rw [sameG_refl] at hs
    generalize applyG g Y = rr at hA hs
    obtain ⟨k, a, s, t, w, h, c, ps, p, q, r, u, lb, wt, ln, hx⟩ := hY
    rw [hx] at hA hpA hfw ⊢
    simp only [vt3, VT.ok, Nd.holds, X.outs, X.ds, X.d, Op1.ev, Op2.ev, takeD_zero, takeD_cons, List.cons_append, List.nil_append, List.getD_cons_zero, List.getD_cons_succ, D.int_i, D.bool_b, D.lst_l, if_true, Bool.false_eq_true, if_false, implies_true, true_and, and_true, F12, R12, F10, R10, F11, R11, F8, R8, F9, R9, hfw, hA, hs, beq_self_eq_true, Bool.not_true, one]
    exact fun _ => hpA
  | false =>
    rw [hb] at hfw
    obtain ⟨k, a, s, t, w, h, c, ps, p, q, r, u, lb, wt, ln, hx⟩ := hY
    rw [hx] at hfw ⊢
    simp only [vt3, VT.ok, Nd.holds, X.outs, X.ds, X.d, Op1.ev, Op2.ev, takeD_zero, takeD_cons, List.cons_append, List.nil_append, List.getD_cons_zero, List.getD_cons_succ, D.bool_b, D.lst_l, ite_b, ite_and, if_true, implies_true, true_and, and_true, F12, R12, F10, R10, F11, R11, F8, R8, F9, R9, hfw, Bool.not_false, one]
theorem law4 : Meets Try.prog 4 S4 (fun _ => True) (fun _ => [.b true]) := by
  refine meets_of_vt (pre := R) (Φ := F) mixed (sgAt_all (P := Try.prog) (pre := R) (Φ := F) (l := sg4) (List.forall_mem_cons.2 ⟨Meets.at (pre := R) (Φ := F) m8, List.forall_mem_cons.2 ⟨Meets.at (pre := R) (Φ := F) m9, List.forall_mem_cons.2 ⟨Meets.at (pre := R) (Φ := F) m13, List.forall_mem_cons.2 ⟨Meets.at (pre := R) (Φ := F) m14, List.forall_mem_cons.2 ⟨Meets.at (pre := R) (Φ := F) m15, (fun _ h => nomatch h)⟩⟩⟩⟩⟩)) Try.func4 b4 n4 (loops_n 0 k4 fun k hk => by omega) e4 fun ds hf _ => ?_
  obtain ⟨g, ds', rfl, h5, _, _⟩ := fitsG hf.flat
  obtain ⟨Y, ds'', rfl, hY, hat, h6⟩ := fitsX h5
  have e0 := fits0 h6
  subst e0
  rw [List.append_nil] at *
  have hA := invL g Y
  have hfw := fewLx g [Y]
  cases hb : fewB g [Y] with
  | true =>
    rw [hb] at hfw
    have hps := (few_ports hb).2 0 (by simp)
    have hpA : prApply (.s g.nm :: .b g.dr :: .l g.N :: .l g.E :: .l g.C :: Y) := by
      show (cL Y 7).length ≤ 1000000
      have : (cL Y 7).length ≤ 20 := hps
      omega
    generalize invG g Y = rr at hA
    have hs : eqFn sameEditB [.l rr.1, .l rr.1] = [.b true] := by
      show [D.b (eqR sameEditB rr.1 rr.1)] = _
      rw [eqR_refl sameEditB_refl]
    obtain ⟨k, a, s, t, w, h, c, ps, p, q, r, u, lb, wt, ln, hx⟩ := hY
    rw [hx] at hA hpA hfw ⊢
    simp only [vt4, VT.ok, Nd.holds, X.outs, X.ds, X.d, Op1.ev, Op2.ev, takeD_zero, takeD_cons, List.cons_append, List.nil_append, List.getD_cons_zero, List.getD_cons_succ, D.int_i, D.bool_b, D.lst_l, if_true, Bool.false_eq_true, if_false, implies_true, true_and, and_true, F13, R13, F14, R14, F15, R15, F8, R8, F9, R9, hfw, hA, hs, beq_self_eq_true, Bool.not_true, one]
    exact fun _ => hpA
  | false =>
    rw [hb] at hfw
    obtain ⟨k, a, s, t, w, h, c, ps, p, q, r, u, lb, wt, ln, hx⟩ := hY
    rw [hx] at hfw ⊢
    simp only [vt4, VT.ok, Nd.holds, X.outs, X.ds, X.d, Op1.ev, Op2.ev, takeD_zero, takeD_cons, List.cons_append, List.nil_append, List.getD_cons_zero, List.getD_cons_succ, D.bool_b, D.lst_l, ite_b, ite_and, if_true, implies_true, true_and, and_true, F13, R13, F14, R14, F15, R15, F8, R8, F9, R9, hfw, Bool.not_false, one]
theorem law6 : Meets Try.prog 6 S6 (fun _ => True) (fun _ => [.b true]) := by
  refine meets_of_vt (pre := R) (Φ := F) mixed (sgAt_all (P := Try.prog) (pre := R) (Φ := F) (l := sg6) (List.forall_mem_cons.2 ⟨Meets.at (pre := R) (Φ := F) m8, List.forall_mem_cons.2 ⟨Meets.at (pre := R) (Φ := F) m9, List.forall_mem_cons.2 ⟨Meets.at (pre := R) (Φ := F) m16, List.forall_mem_cons.2 ⟨Meets.at (pre := R) (Φ := F) m17, List.forall_mem_cons.2 ⟨Meets.at (pre := R) (Φ := F) m12, (fun _ h => nomatch h)⟩⟩⟩⟩⟩)) Try.func6 b6 n6 (loops_n 0 k6 fun k hk => by omega) e6 fun ds hf _ => ?_
  obtain ⟨g, ds', rfl, h5, _, _⟩ := fitsG hf.flat
  obtain ⟨y, rfl, hy⟩ := fits1 h5
  obtain ⟨l, rfl, hm, _⟩ := wf_sl hy
  have hA := runL g l
  have hfw := fewLx g l
  cases hb : fewB g l with
  | true =>
    rw [hb] at hfw
    have hps := (few_ports hb).2
    have hpA : prRun [.s g.nm, .b g.dr, .l g.N, .l g.E, .l g.C, .l l] := fun i hi => by
      have : (cL (el l i) 7).length ≤ 20 := hps i hi
      show (cL (el l i) 7).length ≤ 1000000
      omega
    have hs := sameL (runG g l).1 (runG g l).1
    rw [sameG_refl] at hs
    generalize runG g l = rr at hA hs
    simp only [vt6, VT.ok, Nd.holds, X.outs, X.ds, X.d, Op1.ev, Op2.ev, takeD_zero, takeD_cons, List.cons_append, List.nil_append, List.getD_cons_zero, List.getD_cons_succ, D.int_i, D.bool_b, if_true, Bool.false_eq_true, if_false, implies_true, true_and, and_true, F12, R12, F16, R16, F17, R17, F8, R8, F9, R9, hfw, hA, hs, beq_self_eq_true, Bool.not_true, one]
    exact fun _ => hpA
  | false =>
    rw [hb] at hfw
    simp only [vt6, VT.ok, Nd.holds, X.outs, X.ds, X.d, Op1.ev, Op2.ev, takeD_zero, takeD_cons, List.cons_append, List.nil_append, List.getD_cons_zero, List.getD_cons_succ, D.bool_b, ite_b, ite_and, if_true, implies_true, true_and, and_true, F12, R12, F16, R16, F17, R17, F8, R8, F9, R9, hfw, Bool.not_false, one]
end Go.Proofs.Ythnilbkkihmpoaa.rv
