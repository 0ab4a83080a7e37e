/-
  layoutlaw05 over data: the five laws.
-/
import Derived.Test.YtpbjlhgdgggmkaaRvTrig3
namespace Go.Proofs.Ytpbjlhgdgggmkaa.rv
open Go.RV

def allDeg (p : Int → Bool) : Bool := (List.range 360).all fun n => p n
theorem deg {p : Int → Bool} (h : allDeg p = true) (d : Int) : p (d % 360) = true := by
  have h1 := List.all_eq_true.1 h (d % 360).toNat (List.mem_range.2 (by omega))
  have e : ((d % 360).toNat : Int) = d % 360 := by omega
  rw [e] at h1
  exact h1

theorem si_neg (d : Int) : si (-d) = -si d := by
  have h := deg (p := fun r => sn ((360 - r) % 360) == -sn r) (by kernel_rfl) d
  have e : (-d) % 360 = (360 - d % 360) % 360 := by omega
  simp only [si, e]
  simpa using h
theorem co_neg (d : Int) : co (-d) = co d := by
  have h := deg (p := fun r => sn (((360 - r) % 360 + 90) % 360) == sn ((r + 90) % 360)) (by kernel_rfl) d
  have e : (-d) % 360 = (360 - d % 360) % 360 := by omega
  simp only [co, e]
  simpa using h
theorem si_180 (d : Int) : si (d + 180) = -si d := by
  have h := deg (p := fun r => sn ((r + 180) % 360) == -sn r) (by kernel_rfl) d
  have e : (d + 180) % 360 = (d % 360 + 180) % 360 := by omega
  simp only [si, e]
  simpa using h
theorem co_180 (d : Int) : co (d + 180) = -co d := by
  have h := deg (p := fun r => sn (((r + 180) % 360 + 90) % 360) == -sn ((r + 90) % 360)) (by kernel_rfl) d
  have e : (d + 180) % 360 = (d % 360 + 180) % 360 := by omega
  simp only [co, e]
  simpa using h
theorem si_90 (d : Int) : si (d + 90) = co d := by
  have e : (d + 90) % 360 = (d % 360 + 90) % 360 := by omega
  simp only [si, co, e]
theorem sq_one (d : Int) : -15000 ≤ si d * si d + co d * co d - 100000000 ∧ si d * si d + co d * co d - 100000000 ≤ 15000 := by
  have h := deg (p := fun r => decide (-15000 ≤ sn r * sn r + sn ((r + 90) % 360) * sn ((r + 90) % 360) - 100000000) && decide (sn r * sn r + sn ((r + 90) % 360) * sn ((r + 90) % 360) - 100000000 ≤ 15000)) (by kernel_rfl) d
  simp only [Bool.and_eq_true, decide_eq_true_eq] at h
  exact h

theorem fn15_eq {x : Int} (h : -9223372036854775808 < x ∧ x ≤ 9223372036854775807) : fn15 [.i x] = [.i (if x < 0 then -x else x)] := by
  have e1 : IntKind.i64.wrap (0 - x) = if x = -9223372036854775808 then x else -x := by
    rw [wrap_i64]; omega
  simp only [fn15, vt15, VT.val, X.ds, X.d, Op1.ev, Op2.ev, List.getD_cons_zero, D.int_i, D.bool_b, decide_eq_true_eq, e1]
  split
  · rw [if_neg (by omega)]
  · rfl
theorem fn15_min : fn15 [.i (-9223372036854775808)] = [.i (-9223372036854775808)] := by kernel_rfl

def one (_ : List D) : List D := [.b true]
def FL : FuncId → List D → List D := tabOf [(8, siD), (9, siD), (10, coD), (11, coD), (12, one), (13, polD), (14, polD), (15, fn15), (16, fn16)]
theorem hML {l : List (FuncId × Sig)} (h : ∀ e ∈ l, e = (8, S8) ∨ e = (9, S9) ∨ e = (10, S10) ∨ e = (11, S11) ∨ e = (12, S12) ∨ e = (13, S13) ∨ e = (14, S14) ∨ e = (15, S15) ∨ e = (16, S16)) : ∀ f S, sgOf l f = some S → Meets Try.prog f S (fun _ => True) (FL f) := sgOf_all (pre := fun _ _ => True) (l := l) (by
  intro e he
  rcases h e he with rfl | rfl | rfl | rfl | rfl | rfl | rfl | rfl | rfl
  · exact m8
  · exact m9
  · exact m10
  · exact m11
  · exact m12
  · exact m13
  · exact m14
  · exact m15
  · exact m16)

theorem law3 : Meets Try.prog 3 S3 (fun _ => True) (fun _ => [.b true]) := by
  refine meets_of_vt (pre := fun _ _ => True) (Φ := FL) mixed (hML (l := sg3) (by simp [sg3])) Try.func3 b3 n3 (loops_n 0 k3 fun k hk => by omega) e3 fun ds hf _ => ?_
  obtain ⟨d, rfl, h1, h2⟩ := i64_of (S := S3) hf rfl
  simp only [vt3, VT.ok, Nd.holds, X.outs, X.ds, X.d, Op2.ev, takeD_zero, takeD_cons, List.cons_append, List.nil_append, List.getD_cons_zero, List.getD_cons_succ, D.int_i, D.bool_b, ite_b, ite_and, show FL 8 = siD from rfl, show FL 9 = siD from rfl, show FL 10 = coD from rfl, show FL 11 = coD from rfl, show FL 12 = one from rfl, siD, coD, one, beq_self_eq_true, Bool.and_self, implies_true, and_self, if_true]

theorem law4 : Meets Try.prog 4 S4 (fun _ => True) (fun _ => [.b true]) := by
  refine meets_of_vt (pre := fun _ _ => True) (Φ := FL) mixed (hML (l := sg4) (by simp [sg4])) Try.func4 b4 n4 (loops_n 0 k4 fun k hk => by omega) e4 fun ds hf _ => ?_
  obtain ⟨x, y, r, d, rfl, hd⟩ := d4_of (S := S4) hf rfl
  simp only [vt4, VT.ok, Nd.holds, X.outs, X.ds, X.d, Op2.ev, takeD_zero, takeD_cons, List.cons_append, List.nil_append, List.getD_cons_zero, List.getD_cons_succ, D.int_i, D.bool_b, ite_b, ite_and, show FL 13 = polD from rfl, show FL 14 = polD from rfl, show FL 12 = one from rfl, polD, one, beq_self_eq_true, Bool.and_self, implies_true, and_self, if_true]

theorem law5 : Meets Try.prog 5 S5 (fun _ => True) (fun _ => [.b true]) := by
  refine meets_of_vt (pre := fun _ _ => True) (Φ := FL) mixed (hML (l := sg5) (by simp [sg5])) Try.func5 b5 n5 (loops_n 0 k5 fun k hk => by omega) e5 fun ds hf _ => ?_
  obtain ⟨d, rfl, h1, h2⟩ := i64_of (S := S5) hf rfl
  have b1 := si_bd d
  have b2 := co_bd d
  have m1 := mul_bd (p := 10000) (q := 10000) (by omega : -10000 ≤ si d ∧ si d ≤ 10000) (by omega : -10000 ≤ si d ∧ si d ≤ 10000)
  have m2 := mul_bd (p := 10000) (q := 10000) (by omega : -10000 ≤ co d ∧ co d ≤ 10000) (by omega : -10000 ≤ co d ∧ co d ≤ 10000)
  have hsq := sq_one d
  have w1 : IntKind.i64.wrap (si d * si d) = si d * si d := w64 (by omega)
  have w2 : IntKind.i64.wrap (co d * co d) = co d * co d := w64 (by omega)
  have w3 : IntKind.i64.wrap (si d * si d + co d * co d) = si d * si d + co d * co d := w64 (by omega)
  have w4 : IntKind.i64.wrap (si d * si d + co d * co d - 100000000) = si d * si d + co d * co d - 100000000 := w64 (by omega)
  have a1 := fn15_eq (x := si d * si d + co d * co d - 100000000) (by omega)
  have a2 : decide ((if si d * si d + co d * co d - 100000000 < 0 then -(si d * si d + co d * co d - 100000000) else si d * si d + co d * co d - 100000000) ≤ 15000) = true := by
    rw [decide_eq_true_eq]; split <;> omega
  have n1 : IntKind.i64.wrap (0 - si d) = -si d := by rw [w64 (by omega)]; omega
  have n2 : IntKind.i64.wrap (0 - co d) = -co d := by rw [w64 (by omega)]; omega
  by_cases hb : d < -1099511627776 ∨ 1099511627776 < d
  · have hb' : (decide (d < -1099511627776) || decide (1099511627776 < d)) = true := by simpa using hb
    simp only [vt5, VT.ok, Nd.holds, X.outs, X.ds, X.d, Op1.ev, Op2.ev, takeD_zero, takeD_cons, List.cons_append, List.nil_append, List.getD_cons_zero, List.getD_cons_succ, D.int_i, D.bool_b, ite_b, ite_and, ite_or, show FL 8 = siD from rfl, show FL 10 = coD from rfl, show FL 12 = one from rfl, show FL 15 = fn15 from rfl, siD, coD, one, hb', if_true, w1, w2, w3, w4, a1, a2, Bool.and_self, implies_true, and_self]
  · have hb' : (decide (d < -1099511627776) || decide (1099511627776 < d)) = false := by
      rw [Bool.eq_false_iff]; simpa using hb
    have e1 : IntKind.i64.wrap (0 - d) = -d := by rw [w64 (by omega)]; omega
    have e2 : IntKind.i64.wrap (d + 180) = d + 180 := w64 (by omega)
    have e3 : IntKind.i64.wrap (d + 90) = d + 90 := w64 (by omega)
    simp only [vt5, VT.ok, Nd.holds, X.outs, X.ds, X.d, Op1.ev, Op2.ev, takeD_zero, takeD_cons, List.cons_append, List.nil_append, List.getD_cons_zero, List.getD_cons_succ, D.int_i, D.bool_b, ite_b, ite_and, ite_or, show FL 8 = siD from rfl, show FL 10 = coD from rfl, show FL 12 = one from rfl, show FL 15 = fn15 from rfl, siD, coD, one, hb', Bool.false_eq_true, if_false, w1, w2, w3, w4, a1, a2, e1, e2, e3, n1, n2, si_neg, co_neg, si_180, co_180, si_90, beq_self_eq_true, Bool.and_self, implies_true, and_self, if_true]

theorem rnd_neg (n : Int) : rnd (-n) = -rnd n := by simp only [rnd]; split <;> split <;> omega

theorem pol_in {x y r d : Int} (hx : -1048576 ≤ x ∧ x ≤ 1048576) (hy : -1048576 ≤ y ∧ y ≤ 1048576) (hr : 0 ≤ r ∧ r ≤ 1048576) : pol x y r d = (x + rnd (r * co d), y + rnd (r * si d)) ∧ pv (x + rnd (r * co d)) (y + rnd (r * si d)) = true := by
  have b1 := rnd_bd hr (co_bd d)
  have b2 := rnd_bd hr (si_bd d)
  have h1 : pv (x + rnd (r * co d)) (y + rnd (r * si d)) = true := by
    simp only [pv, Bool.and_eq_true, decide_eq_true_eq]; omega
  have h2 : polOk x y r = true := by
    simp only [polOk, pv, Bool.and_eq_true, decide_eq_true_eq]; omega
  exact ⟨by simp only [pol, h1, h2, and_self, if_true], h1⟩

theorem d4_any {S : Sig} {ds : List D} (hf : Fits S.ps ds) (hs : flatCts S.ps = [.int .i64, .int .i64, .int .i64, .int .i64]) : ∃ a b c d : Int, ds = [.i a, .i b, .i c, .i d] ∧ (-9223372036854775808 ≤ a ∧ a ≤ 9223372036854775807) ∧ (-9223372036854775808 ≤ b ∧ b ≤ 9223372036854775807) := by
  have h := hf.flat
  rw [hs] at h
  match ds, h with
  | [d0, d1, d2, d3], ⟨h0, h1, h2, h3, _⟩ =>
    obtain ⟨a, rfl, ha⟩ := wf_i64 h0
    obtain ⟨b, rfl, hb⟩ := wf_i64 h1
    obtain ⟨c, rfl, _⟩ := wf_i64 h2
    obtain ⟨d, rfl, _⟩ := wf_i64 h3
    exact ⟨a, b, c, d, rfl, ha, hb⟩

def absI (x : Int) : Int := if x = -9223372036854775808 then x else if x < 0 then -x else x
theorem absI_le {x : Int} (h : absI x ≤ 1048576) (k : -1099511627776 ≤ x) : -1048576 ≤ x ∧ x ≤ 1048576 := by
  unfold absI at h
  split at h
  · omega
  · split at h <;> omega
theorem fn15_abs {x : Int} (h : -9223372036854775808 ≤ x ∧ x ≤ 9223372036854775807) : fn15 [.i x] = [.i (absI x)] := by
  by_cases hx : x = -9223372036854775808
  · subst hx; exact fn15_min
  · rw [fn15_eq (by omega)]
    simp only [absI, hx, if_false]

theorem law6 : Meets Try.prog 6 S6 (fun _ => True) (fun _ => [.b true]) := by
  refine meets_of_vt (pre := fun _ _ => True) (Φ := FL) mixed (hML (l := sg6) (by simp [sg6])) Try.func6 b6 n6 (loops_n 0 k6 fun k hk => by omega) e6 fun ds hf _ => ?_
  obtain ⟨x, y, r, d, rfl, hx, hy⟩ := d4_any (S := S6) hf rfl
  have ax := fn15_abs hx
  have ay := fn15_abs hy
  simp only [vt6, VT.ok, Nd.holds, X.outs, X.ds, X.d, Op1.ev, Op2.ev, takeD_zero, takeD_cons, List.cons_append, List.nil_append, List.getD_cons_zero, List.getD_cons_succ, D.int_i, D.bool_b, ite_b, ite_and, ite_or, show FL 12 = one from rfl, show FL 13 = polD from rfl, show FL 16 = fn16 from rfl, show FL 15 = fn15 from rfl, one, polD, ax, ay, implies_true, true_and]
  split
  · trivial
  · rename_i hc
    simp only [Bool.or_eq_true, decide_eq_true_eq, not_or, Int.not_lt] at hc
    have hx' : -1048576 ≤ x ∧ x ≤ 1048576 := absI_le (by omega) (by omega)
    have hy' : -1048576 ≤ y ∧ y ≤ 1048576 := absI_le (by omega) (by omega)
    have hr : 0 ≤ r ∧ r ≤ 1048576 := by omega
    have e2 : IntKind.i64.wrap (d + 180) = d + 180 := w64 (by omega)
    obtain ⟨p1, v1⟩ := pol_in (d := d) hx' hy' hr
    obtain ⟨p2, v2⟩ := pol_in (d := d + 180) hx' hy' hr
    have b1 := rnd_bd hr (co_bd d)
    have b2 := rnd_bd hr (si_bd d)
    have q1 : rnd (r * co (d + 180)) = -rnd (r * co d) := by rw [co_180, Int.mul_neg, rnd_neg]
    have q2 : rnd (r * si (d + 180)) = -rnd (r * si d) := by rw [si_180, Int.mul_neg, rnd_neg]
    have w1 : IntKind.i64.wrap (x + rnd (r * co d) + (x + -rnd (r * co d))) = 2 * x := by rw [w64 (by omega)]; omega
    have w2 : IntKind.i64.wrap (y + rnd (r * si d) + (y + -rnd (r * si d))) = 2 * y := by rw [w64 (by omega)]; omega
    have w3 : IntKind.i64.wrap (2 * x) = 2 * x := w64 (by omega)
    have w4 : IntKind.i64.wrap (2 * y) = 2 * y := w64 (by omega)
    simp only [e2, p1, p2, q1, q2, w1, w2, w3, w4, fn16_eq, v1, beq_self_eq_true, Bool.and_self, takeD_zero, takeD_cons, List.cons_append, List.nil_append, List.getD_cons_zero, List.getD_cons_succ, D.bool_b, D.int_i, if_true]

theorem rnd_grow {a b s : Int} (ha : 0 ≤ a) (hab : a ≤ b) : (if rnd (a * s) < 0 then -rnd (a * s) else rnd (a * s)) ≤ (if rnd (b * s) < 0 then -rnd (b * s) else rnd (b * s)) := by
  by_cases hs : 0 ≤ s
  · have h1 : 0 ≤ a * s := Int.mul_nonneg ha hs
    have h2 : a * s ≤ b * s := Int.mul_le_mul_of_nonneg_right hab hs
    generalize a * s = m at *
    generalize b * s = n at *
    have e1 : rnd m = (m + 5000) / 10000 := if_neg (by omega)
    have e2 : rnd n = (n + 5000) / 10000 := if_neg (by omega)
    rw [e1, e2]
    split <;> split <;> omega
  · have h1 : a * s ≤ 0 := Int.mul_nonpos_of_nonneg_of_nonpos ha (by omega)
    have h2 : b * s ≤ a * s := Int.mul_le_mul_of_nonpos_right hab (by omega)
    generalize a * s = m at *
    generalize b * s = n at *
    have e1 : rnd m = -((-m + 5000) / 10000) := by unfold rnd; split <;> omega
    have e2 : rnd n = -((-n + 5000) / 10000) := by unfold rnd; split <;> omega
    rw [e1, e2]
    split <;> split <;> omega

theorem d5_of {S : Sig} {ds : List D} (hf : Fits S.ps ds) (hs : flatCts S.ps = [.int .i64, .int .i64, .int .i64, .int .i64, .int .i64]) : ∃ a b c d e : Int, ds = [.i a, .i b, .i c, .i d, .i e] := by
  have h := hf.flat
  rw [hs] at h
  match ds, h with
  | [d0, d1, d2, d3, d4], ⟨h0, h1, h2, h3, h4, _⟩ =>
    obtain ⟨a, rfl, ha⟩ := wf_i64 h0
    obtain ⟨b, rfl, hb⟩ := wf_i64 h1
    obtain ⟨c, rfl, _⟩ := wf_i64 h2
    obtain ⟨d, rfl, _⟩ := wf_i64 h3
    obtain ⟨e, rfl, _⟩ := wf_i64 h4
    exact ⟨a, b, c, d, e, rfl⟩

theorem law7 : Meets Try.prog 7 S7 (fun _ => True) (fun _ => [.b true]) := by
  refine meets_of_vt (pre := fun _ _ => True) (Φ := FL) mixed (hML (l := sg7) (by simp [sg7])) Try.func7 b7 n7 (loops_n 0 k7 fun k hk => by omega) e7 fun ds hf _ => ?_
  obtain ⟨x, y, a, b, d, rfl⟩ := d5_of (S := S7) hf rfl
  simp only [vt7, VT.ok, Nd.holds, X.outs, X.ds, X.d, Op1.ev, Op2.ev, takeD_zero, takeD_cons, List.cons_append, List.nil_append, List.getD_cons_zero, List.getD_cons_succ, D.int_i, D.bool_b, ite_b, ite_and, ite_or, show FL 12 = one from rfl, show FL 13 = polD from rfl, show FL 15 = fn15 from rfl, one, polD, implies_true, true_and]
  split
  · trivial
  · rename_i hc
    simp only [Bool.or_eq_true, decide_eq_true_eq, not_or, Int.not_lt] at hc
    have hx' : -1048576 ≤ x ∧ x ≤ 1048576 := by omega
    have hy' : -1048576 ≤ y ∧ y ≤ 1048576 := by omega
    have ha : 0 ≤ a ∧ a ≤ 1048576 := by omega
    have hb : 0 ≤ b ∧ b ≤ 1048576 := by omega
    obtain ⟨p1, v1⟩ := pol_in (d := d) hx' hy' ha
    obtain ⟨p2, v2⟩ := pol_in (d := d) hx' hy' hb
    have a1 := rnd_bd ha (co_bd d)
    have a2 := rnd_bd ha (si_bd d)
    have b1 := rnd_bd hb (co_bd d)
    have b2 := rnd_bd hb (si_bd d)
    have g1 := rnd_grow (a := a) (b := b) (s := co d) (by omega) (by omega)
    have g2 := rnd_grow (a := a) (b := b) (s := si d) (by omega) (by omega)
    have w1 : IntKind.i64.wrap (x + rnd (a * co d) - x) = rnd (a * co d) := by rw [w64 (by omega)]; omega
    have w2 : IntKind.i64.wrap (y + rnd (a * si d) - y) = rnd (a * si d) := by rw [w64 (by omega)]; omega
    have w3 : IntKind.i64.wrap (x + rnd (b * co d) - x) = rnd (b * co d) := by rw [w64 (by omega)]; omega
    have w4 : IntKind.i64.wrap (y + rnd (b * si d) - y) = rnd (b * si d) := by rw [w64 (by omega)]; omega
    have q1 := fn15_eq (x := rnd (a * co d)) (by omega)
    have q2 := fn15_eq (x := rnd (a * si d)) (by omega)
    have q3 := fn15_eq (x := rnd (b * co d)) (by omega)
    have q4 := fn15_eq (x := rnd (b * si d)) (by omega)
    have t3 : decide ((if rnd (b * co d) < 0 then -rnd (b * co d) else rnd (b * co d)) ≤ b) = true := by rw [decide_eq_true_eq]; split <;> omega
    have t4 : decide ((if rnd (b * si d) < 0 then -rnd (b * si d) else rnd (b * si d)) ≤ b) = true := by rw [decide_eq_true_eq]; split <;> omega
    simp only [p1, p2, w1, w2, w3, w4, q1, q2, q3, q4, t3, t4, decide_eq_true g1, decide_eq_true g2, Bool.and_self, takeD_zero, takeD_cons, List.cons_append, List.nil_append, List.getD_cons_zero, List.getD_cons_succ, D.bool_b, D.int_i, if_true]
end Go.Proofs.Ytpbjlhgdgggmkaa.rv
