/-
  The trig package and its reference as functions of data: polar coordinates, and the laws.
-/
import Derived.Test.YtpbjlhgdgggmkaaRvTrig2
namespace Go.Proofs.Ytpbjlhgdgggmkaa.rv
open Go.RV

def pv (x y : Int) : Bool := decide (-268435456 ≤ x) && decide (x ≤ 268435456) && decide (-268435456 ≤ y) && decide (y ≤ 268435456)
theorem fn21_eq (x y : Int) : fn21 [.i x, .i y] = [.b (pv x y)] := by
  simp only [fn21, vt21, VT.val, X.ds, X.d, Op2.ev, List.getD_cons_zero, List.getD_cons_succ, D.int_i, D.bool_b, ite_b, ite_and, pv, Bool.and_assoc]
theorem fn16_eq (x y : Int) : fn16 [.i x, .i y] = [.b (pv x y)] := by
  simp only [fn16, vt16, VT.val, X.ds, X.d, Op2.ev, List.getD_cons_zero, List.getD_cons_succ, D.int_i, D.bool_b, ite_b, ite_and, pv, Bool.and_assoc]
theorem pv_spec {x y : Int} (h : pv x y = true) : -268435456 ≤ x ∧ x ≤ 268435456 ∧ -268435456 ≤ y ∧ y ≤ 268435456 := by
  simp only [pv, Bool.and_eq_true, decide_eq_true_eq] at h
  omega

def polOk (x y r : Int) : Bool := pv x y && decide (0 ≤ r) && decide (r ≤ 1048576)
def pol (x y r d : Int) : Int × Int := if polOk x y r = true ∧ pv (x + rnd (r * co d)) (y + rnd (r * si d)) = true then (x + rnd (r * co d), y + rnd (r * si d)) else (0, 0)
def polD : List D → List D
  | [.i x, .i y, .i r, .i d] => [.i (pol x y r d).1, .i (pol x y r d).2]
  | _ => []

theorem rnd_bd {r s : Int} (h : 0 ≤ r ∧ r ≤ 1048576) (k : -10000 ≤ s ∧ s ≤ 10000) : -r ≤ rnd (r * s) ∧ rnd (r * s) ≤ r := by
  have h1 : r * s ≤ r * 10000 := Int.mul_le_mul_of_nonneg_left k.2 h.1
  have h2 : r * -10000 ≤ r * s := Int.mul_le_mul_of_nonneg_left k.1 h.1
  generalize r * s = n at *
  simp only [rnd]
  split <;> omega

theorem d4_of {S : Sig} {ds : List D} (hf : Fits S.ps ds) (hs : flatCts S.ps = [.int .i64, .int .i64, .int .i64, .int .i64]) : ∃ a b c d : Int, ds = [.i a, .i b, .i c, .i d] ∧ (-9223372036854775808 ≤ d ∧ d ≤ 9223372036854775807) := by
  have h := hf.flat
  rw [hs] at h
  match ds, h with
  | [d0, d1, d2, d3], ⟨h0, h1, h2, h3, _⟩ =>
    obtain ⟨a, rfl, _⟩ := wf_i64 h0
    obtain ⟨b, rfl, _⟩ := wf_i64 h1
    obtain ⟨c, rfl, _⟩ := wf_i64 h2
    obtain ⟨d, rfl, h4⟩ := wf_i64 h3
    exact ⟨a, b, c, d, rfl, h4⟩

theorem pol_cond (p : Bool) (r : Int) : ((!p || decide (r < 0)) || decide (1048576 < r)) = !(p && decide (0 ≤ r) && decide (r ≤ 1048576)) := by
  cases p
  · rfl
  · by_cases h1 : r < 0
    · have : ¬ 0 ≤ r := by omega
      simp [h1, this]
    · have : 0 ≤ r := by omega
      by_cases h2 : 1048576 < r
      · have h3 : ¬ r ≤ 1048576 := by omega
        simp [h2, h3]
      · have h3 : r ≤ 1048576 := by omega
        simp [h1, h2, h3, this]

def F13 : FuncId → List D → List D := tabOf [(21, fn21), (16, fn16), (10, coD), (11, coD), (22, sclD), (23, sclD), (8, siD), (9, siD)]
def P13 (f : FuncId) (ρ : List D) : Prop := if f = 22 then sclPre (-10000) ρ else if f = 23 then sclPre (-10000) ρ else True
theorem P13_22 : P13 22 = sclPre (-10000) := by funext; simp [P13]
theorem P13_23 : P13 23 = sclPre (-10000) := by funext; simp [P13]
theorem P13_t {f : FuncId} (x : List D) (h1 : f ≠ 22) (h2 : f ≠ 23) : P13 f x := by simp [P13, h1, h2]

theorem m13 : Meets Try.prog 13 S13 (fun _ => True) polD := by
  refine meets_of_vt (pre := P13) (Φ := F13) mixed (sgOf_all (l := sg13) ?_) Try.func13 b13 n13 (loops_n 0 k13 fun k hk => by omega) e13 fun ds hf _ => ?_
  · intro e he
    simp only [sg13, List.mem_cons, List.not_mem_nil, or_false] at he
    rcases he with rfl | rfl | rfl | rfl
    · exact m21
    · exact m10
    · exact m22'
    · exact m8
  · obtain ⟨x, y, r, d, rfl, hd⟩ := d4_of (S := S13) hf rfl
    simp only [vt13, VT.ok, Nd.holds, X.outs, X.ds, X.d, Op1.ev, Op2.ev, takeD_zero, takeD_cons, List.cons_append, List.nil_append, List.getD_cons_zero, List.getD_cons_succ, D.int_i, D.bool_b, ite_b, ite_or, show F13 21 = fn21 from rfl, show F13 10 = coD from rfl, show F13 22 = sclD from rfl, show F13 8 = siD from rfl, fn21_eq, coD, siD, sclD, P13_22, pol_cond]
    refine ⟨fun _ => P13_t _ (by decide) (by decide), ?_⟩
    cases hok : polOk x y r with
    | false =>
      have hok' : (pv x y && decide (0 ≤ r) && decide (r ≤ 1048576)) = false := hok
      simp only [hok', Bool.not_false, if_true, polD, pol, hok, Bool.false_eq_true, false_and, if_false]
    | true =>
      have hok' : (pv x y && decide (0 ≤ r) && decide (r ≤ 1048576)) = true := hok
      have hr := hok'
      simp only [Bool.and_eq_true, decide_eq_true_eq] at hr
      have hp := pv_spec hr.1.1
      have b1 := rnd_bd ⟨hr.1.2, hr.2⟩ (co_bd d)
      have b2 := rnd_bd ⟨hr.1.2, hr.2⟩ (si_bd d)
      have c1 := co_bd d
      have c2 := si_bd d
      have w1 : IntKind.i64.wrap (x + rnd (r * co d)) = x + rnd (r * co d) := w64 (by omega)
      have w2 : IntKind.i64.wrap (y + rnd (r * si d)) = y + rnd (r * si d) := w64 (by omega)
      simp only [hok', Bool.not_true, Bool.false_eq_true, if_false, w1, w2, fn21_eq, takeD_zero, takeD_cons, D.bool_b, List.cons_append, List.nil_append, List.getD_cons_zero, List.getD_cons_succ]
      refine ⟨fun _ => P13_t _ (by decide) (by decide), fun _ => ⟨_, _, rfl, hr.1.2, hr.2, c1⟩, fun _ => P13_t _ (by decide) (by decide), fun _ => ⟨_, _, rfl, hr.1.2, hr.2, c2⟩, fun _ => P13_t _ (by decide) (by decide), ?_⟩
      cases hq : pv (x + rnd (r * co d)) (y + rnd (r * si d)) with
      | false => simp only [Bool.not_false, if_true, polD, pol, hq, Bool.false_eq_true, and_false, if_false]
      | true => simp only [Bool.not_true, Bool.false_eq_true, if_false, polD, pol, hq, hok, and_self, if_true]

theorem m14 : Meets Try.prog 14 S14 (fun _ => True) polD := by
  refine meets_of_vt (pre := P13) (Φ := F13) mixed (sgOf_all (l := sg14) ?_) Try.func14 b14 n14 (loops_n 0 k14 fun k hk => by omega) e14 fun ds hf _ => ?_
  · intro e he
    simp only [sg14, List.mem_cons, List.not_mem_nil, or_false] at he
    rcases he with rfl | rfl | rfl | rfl
    · exact m16
    · exact m11
    · exact m23
    · exact m9
  · obtain ⟨x, y, r, d, rfl, hd⟩ := d4_of (S := S14) hf rfl
    simp only [vt14, VT.ok, Nd.holds, X.outs, X.ds, X.d, Op1.ev, Op2.ev, takeD_zero, takeD_cons, List.cons_append, List.nil_append, List.getD_cons_zero, List.getD_cons_succ, D.int_i, D.bool_b, ite_b, ite_or, show F13 16 = fn16 from rfl, show F13 11 = coD from rfl, show F13 23 = sclD from rfl, show F13 9 = siD from rfl, fn16_eq, coD, siD, sclD, P13_23, pol_cond]
    refine ⟨fun _ => P13_t _ (by decide) (by decide), ?_⟩
    cases hok : polOk x y r with
    | false =>
      have hok' : (pv x y && decide (0 ≤ r) && decide (r ≤ 1048576)) = false := hok
      simp only [hok', Bool.not_false, if_true, polD, pol, hok, Bool.false_eq_true, false_and, if_false]
    | true =>
      have hok' : (pv x y && decide (0 ≤ r) && decide (r ≤ 1048576)) = true := hok
      have hr := hok'
      simp only [Bool.and_eq_true, decide_eq_true_eq] at hr
      have hp := pv_spec hr.1.1
      have b1 := rnd_bd ⟨hr.1.2, hr.2⟩ (co_bd d)
      have b2 := rnd_bd ⟨hr.1.2, hr.2⟩ (si_bd d)
      have c1 := co_bd d
      have c2 := si_bd d
      have w1 : IntKind.i64.wrap (x + rnd (r * co d)) = x + rnd (r * co d) := w64 (by omega)
      have w2 : IntKind.i64.wrap (y + rnd (r * si d)) = y + rnd (r * si d) := w64 (by omega)
      simp only [hok', Bool.not_true, Bool.false_eq_true, if_false, w1, w2, fn16_eq, takeD_zero, takeD_cons, D.bool_b, List.cons_append, List.nil_append, List.getD_cons_zero, List.getD_cons_succ]
      refine ⟨fun _ => P13_t _ (by decide) (by decide), fun _ => ⟨_, _, rfl, hr.1.2, hr.2, c1⟩, fun _ => P13_t _ (by decide) (by decide), fun _ => ⟨_, _, rfl, hr.1.2, hr.2, c2⟩, fun _ => P13_t _ (by decide) (by decide), ?_⟩
      cases hq : pv (x + rnd (r * co d)) (y + rnd (r * si d)) with
      | false => simp only [Bool.not_false, if_true, polD, pol, hq, Bool.false_eq_true, and_false, if_false]
      | true => simp only [Bool.not_true, Bool.false_eq_true, if_false, polD, pol, hq, hok, and_self, if_true]

/-! ### the examples -/
def F12 : FuncId → List D → List D := tabOf [(8, siD), (10, coD), (13, polD)]
theorem m12 : Meets Try.prog 12 S12 (fun _ => True) (fun _ => [.b true]) := by
  refine meets_of_vt (pre := fun _ _ => True) (Φ := F12) mixed (sgOf_all (pre := fun _ _ => True) (l := sg12) ?_) Try.func12 b12 n12 (loops_n 0 k12 fun k hk => by omega) e12 fun ds hf _ => ?_
  · intro e he
    simp only [sg12, List.mem_cons, List.not_mem_nil, or_false] at he
    rcases he with rfl | rfl | rfl
    · exact m8
    · exact m10
    · exact m13
  · match ds, hf.flat with
    | [], _ =>
      have s1 : siD [.i 30] = [.i 5000] := by kernel_rfl
      have s2 : siD [.i (-90)] = [.i (-10000)] := by kernel_rfl
      have s3 : coD [.i 120] = [.i (-5000)] := by kernel_rfl
      have s4 : polD [.i 0, .i 0, .i 1000, .i 30] = [.i 866, .i 500] := by kernel_rfl
      have s5 : polD [.i 0, .i 0, .i 1000, .i 90] = [.i 0, .i 1000] := by kernel_rfl
      simp only [vt12, VT.ok, Nd.holds, X.outs, X.ds, X.d, Op2.ev, takeD_zero, takeD_cons, List.cons_append, List.nil_append, List.getD_cons_zero, List.getD_cons_succ, D.int_i, D.bool_b, ite_b, ite_and, show F12 8 = siD from rfl, show F12 10 = coD from rfl, show F12 13 = polD from rfl, s1, s2, s3, s4, s5, beq_self_eq_true, Bool.and_self, if_true]
      exact ⟨fun _ => trivial, fun _ => trivial, fun _ => trivial, fun _ => trivial, fun _ => trivial, trivial⟩
end Go.Proofs.Ytpbjlhgdgggmkaa.rv
