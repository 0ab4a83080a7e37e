/-
  Radial drawings: the parts of wedges; angles.
-/
import Derived.Test.YtdehhmcfhaeheaaRvRad6
namespace Go.Proofs.Ytdehhmcfhaeheaa.rv
open Go.RV

theorem pw_eq (q : Bx) (n : Int) : pw q n = (q.1 + q.2.2.2 * q.2.1 / q.2.2.1, q.1 + (q.2.2.2 + n) * q.2.1 / q.2.2.1 - (q.1 + q.2.2.2 * q.2.1 / q.2.2.1)) := rfl
/-- numbers of wedges stay small -/
theorem w_small {q : Bx} {n : Int} (h : wOk q n) : (0 ≤ q.2.2.2 * q.2.1 ∧ q.2.2.2 * q.2.1 ≤ 23040) ∧ (0 ≤ (q.2.2.2 + n) * q.2.1 ∧ (q.2.2.2 + n) * q.2.1 ≤ 23040) ∧ (0 ≤ q.2.2.2 * q.2.1 / q.2.2.1 ∧ q.2.2.2 * q.2.1 / q.2.2.1 ≤ 23040) ∧ 0 ≤ (q.2.2.2 + n) * q.2.1 / q.2.2.1 ∧ (q.2.2.2 + n) * q.2.1 / q.2.2.1 ≤ 23040 := by
  obtain ⟨h1, h2, h3, h4, h5, h6⟩ := h
  have a1 : 0 ≤ q.2.2.2 * q.2.1 := Int.mul_nonneg h4 h2.1
  have a2 : q.2.2.2 * q.2.1 ≤ 64 * 360 := Int.mul_le_mul (by omega) h2.2 h2.1 (by omega)
  have b1 : 0 ≤ (q.2.2.2 + n) * q.2.1 := Int.mul_nonneg (by omega) h2.1
  have b2 : (q.2.2.2 + n) * q.2.1 ≤ 64 * 360 := Int.mul_le_mul (by omega) h2.2 h2.1 (by omega)
  have d : ∀ x : Int, 0 ≤ x → 0 ≤ x / q.2.2.1 ∧ x / q.2.2.1 ≤ x := fun x hx => ⟨Int.ediv_nonneg hx (by omega), Int.ediv_le_self _ hx⟩
  have := d _ a1
  have := d _ b1
  omega
theorem mp9_1 : ProcMeets Try.prog 23 Sp9_23 P9_1 4 (R P9_1.key) (F P9_1.key) := by
  refine proc_meets mixed (sgAt_all (P := Try.prog) (pre := R) (Φ := F) (l := sgp9_1) ((fun _ h => nomatch h))) Try.func23 bp9_1 np9_1 (loops_n 0 kp9_1 fun k hk => by omega) pe9_1 pp9_1 pl9_1 (by decide) fun ρ _ hq => ?_
  obtain ⟨q, n, rfl, hw⟩ : partBpre ρ := hq
  have e : F P9_1.key [.i q.1, .i q.2.1, .i q.2.2.1, .i q.2.2.2, .i n] = [.i 0, .i (q.2.2.2 + n), .i (pw q n).1, .i (pw q n).2, .i 0, .i 0] := by
    rw [show F P9_1.key = partB from F16023001]; rfl
  rw [e, pw_eq]
  have hs := w_small hw
  obtain ⟨h1, h2, h3, h4, h5, h6⟩ := hw
  simp (disch := omega) only [pv9_1, VT.ok, Nd.holds, X.ds, X.d, Op1.ev, Op2.ev, List.getD_cons_zero, List.getD_cons_succ, D.int_i, D.bool_b, implies_true, and_true, beq_f, w64', tdivp, Bool.not_false]
theorem mp9_0 : ProcMeets Try.prog 23 Sp9_23 P9_0 1 (R P9_0.key) (F P9_0.key) := by
  refine proc_meets mixed (sgAt_all (P := Try.prog) (pre := R) (Φ := F) (l := sgp9_0) ((fun _ h => nomatch h))) Try.func23 bp9_0 np9_0 (loops_n 0 kp9_0 fun k hk => by omega) pe9_0 pp9_0 pl9_0 (by decide) fun ρ _ hq => ?_
  obtain ⟨l, k, n, rfl, hk, hw⟩ : partRpre ρ := hq
  have e : F P9_0.key [.l (l.map encQ), .i (k : Int), .i n] = [.i 0, .l ((l.set k ((l.getD k q0).1, (l.getD k q0).2.1, (l.getD k q0).2.2.1, (l.getD k q0).2.2.2 + n)).map encQ), .i (pw (l.getD k q0) n).1, .i (pw (l.getD k q0) n).2, .i 0, .i 0] := by
    rw [show F P9_0.key = partR from F16023000]
    simp only [partR, map_decQ, Int.toNat_natCast]
  rw [e, pw_eq]
  have hs := w_small hw
  obtain ⟨h1, h2, h3, h4, h5, h6⟩ := hw
  have hkl : k < (l.set k ((l.getD k q0).1, (l.getD k q0).2.1, (l.getD k q0).2.2.1, (l.getD k q0).2.2.2 + n)).length := by rw [List.length_set]; exact hk
  have hg : (l.set k ((l.getD k q0).1, (l.getD k q0).2.1, (l.getD k q0).2.2.1, (l.getD k q0).2.2.2 + n)).getD k q0 = ((l.getD k q0).1, (l.getD k q0).2.1, (l.getD k q0).2.2.1, (l.getD k q0).2.2.2 + n) := by
    simp [List.getD, hk]
  have hrow := rowQ hkl
  rw [hg] at hrow
  simp (disch := omega) only [pv9_0, VT.ok, Nd.holds, X.ds, X.d, Op1.ev, Op2.ev, List.getD_cons_zero, List.getD_cons_succ, D.int_i, D.bool_b, D.lst_l, Int.toNat_natCast, implies_true, and_true, beq_f, w64', rowQ, splQ3, setQ, hrow, encQ, tdivp, Bool.not_false]
theorem mp9_23 : MeetsAt Try.prog 23 Sp9_23 R F := .inr (.inr ⟨rfl, by decide, fun p hm => by
  simp only [Sp9_23, List.mem_cons, List.not_mem_nil, or_false] at hm
  rcases hm with rfl | rfl
  · exact mp9_0
  · exact mp9_1⟩)
end Go.Proofs.Ytdehhmcfhaeheaa.rv
