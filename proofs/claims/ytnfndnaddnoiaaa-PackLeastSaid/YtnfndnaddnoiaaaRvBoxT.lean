/-
  Boxes and points: the program's functions and the reference's as functions of data.
-/
import Derived.Test.YtnfndnaddnoiaaaRvRows2
import Derived.Test.YtnfndnaddnoiaaaRvFns
namespace Go.Proofs.Ytnfndnaddnoiaaa.rv
open Go.RV

/-- a point within the bounds -/
def pv (x y : Int) : Bool := decide (-268435456 ≤ x) && decide (x ≤ 268435456) && decide (-268435456 ≤ y) && decide (y ≤ 268435456)
def bv (a b c d : Int) : Bool := pv a b && pv c d && decide (a ≤ c) && decide (b ≤ d)
def vq (q : Bx) : Bool := bv q.1 q.2.1 q.2.2.1 q.2.2.2
theorem pv_iff {x y : Int} : pv x y = true ↔ (-268435456 ≤ x ∧ x ≤ 268435456) ∧ -268435456 ≤ y ∧ y ≤ 268435456 := by
  simp only [pv, Bool.and_eq_true, decide_eq_true_eq]; omega
theorem bv_iff {a b c d : Int} : bv a b c d = true ↔ ((-268435456 ≤ a ∧ a ≤ 268435456) ∧ -268435456 ≤ b ∧ b ≤ 268435456) ∧ ((-268435456 ≤ c ∧ c ≤ 268435456) ∧ -268435456 ≤ d ∧ d ≤ 268435456) ∧ a ≤ c ∧ b ≤ d := by
  simp only [bv, pv, Bool.and_eq_true, decide_eq_true_eq]; omega
theorem vq_iff {q : Bx} : vq q = true ↔ ((-268435456 ≤ q.1 ∧ q.1 ≤ 268435456) ∧ -268435456 ≤ q.2.1 ∧ q.2.1 ≤ 268435456) ∧ ((-268435456 ≤ q.2.2.1 ∧ q.2.2.1 ≤ 268435456) ∧ -268435456 ≤ q.2.2.2 ∧ q.2.2.2 ≤ 268435456) ∧ q.1 ≤ q.2.2.1 ∧ q.2.1 ≤ q.2.2.2 := bv_iff

/-- do the interiors meet? -/
def ovl (a b : Bx) : Bool := vq a && vq b && decide (max a.1 b.1 < min a.2.2.1 b.2.2.1) && decide (max a.2.1 b.2.1 < min a.2.2.2 b.2.2.2)
def infl (q : Bx) (k : Int) : Bx := if vq q = true ∧ -536870912 ≤ k ∧ k ≤ 536870912 ∧ bv (q.1 - k) (q.2.1 - k) (q.2.2.1 + k) (q.2.2.2 + k) = true then (q.1 - k, q.2.1 - k, q.2.2.1 + k, q.2.2.2 + k) else (0, 0, 0, 0)

theorem pv_or {x y : Int} : (!pv x y) = (decide (x < -268435456) || decide (268435456 < x) || decide (y < -268435456) || decide (268435456 < y)) := by
  cases h : pv x y
  · have : ¬ pv x y = true := by simp [h]
    rw [pv_iff] at this
    rw [Bool.not_false, eq_comm]
    simp only [Bool.or_eq_true, decide_eq_true_eq]; omega
  · rw [pv_iff] at h
    rw [Bool.not_true, eq_comm, Bool.eq_false_iff]
    intro hc
    simp only [Bool.or_eq_true, decide_eq_true_eq] at hc
    omega

theorem fn29_eq (x y : Int) : fn29 [.i x, .i y] = [.b (pv x y)] := by
  simp only [fn29, vt29, VT.val, X.ds, X.d, Op2.ev, List.getD_cons_zero, List.getD_cons_succ, D.int_i, D.bool_b, ite_b, ite_and, pv, Bool.and_assoc]
theorem fn26_eq (x y : Int) : fn26 [.i x, .i y] = [.b (pv x y)] := by
  simp only [fn26, vt26, VT.val, X.ds, X.d, Op2.ev, List.getD_cons_zero, List.getD_cons_succ, D.int_i, D.bool_b, ite_b, ite_and, pv, Bool.and_assoc]
theorem fn27_eq (a b c d : Int) : fn27 [.i a, .i b, .i c, .i d] = [.b (bv a b c d)] := by
  simp only [fn27, vt27, VT.val, X.outs, X.ds, X.d, Op2.ev, takeD_zero, takeD_cons, List.cons_append, List.nil_append, List.getD_cons_zero, List.getD_cons_succ, D.int_i, D.bool_b, ite_b, ite_and, show T27 29 = fn29 from rfl, fn29_eq, bv]
theorem fn16_eq (a b c d : Int) : fn16 [.i a, .i b, .i c, .i d] = [.b (bv a b c d)] := by
  simp only [fn16, vt16, VT.val, X.outs, X.ds, X.d, Op2.ev, takeD_zero, takeD_cons, List.cons_append, List.nil_append, List.getD_cons_zero, List.getD_cons_succ, D.int_i, D.bool_b, ite_b, ite_and, show T16 26 = fn26 from rfl, fn26_eq, bv]
theorem fn28_eq (a b c d : Int) : fn28 [.i a, .i b, .i c, .i d] = if bv a b c d = true then [.i a, .i b, .i c, .i d] else [.i 0, .i 0, .i 0, .i 0] := by
  simp only [fn28, vt28, VT.val, X.outs, X.ds, X.d, Op1.ev, takeD_zero, takeD_cons, List.cons_append, List.nil_append, List.getD_cons_zero, List.getD_cons_succ, D.bool_b, show T28 27 = fn27 from rfl, fn27_eq]
  cases h : bv a b c d <;> rfl
theorem fn22_eq (a b : Bx) : fn22 [.i a.1, .i a.2.1, .i a.2.2.1, .i a.2.2.2, .i b.1, .i b.2.1, .i b.2.2.1, .i b.2.2.2] = [.b (ovl a b)] := by
  simp only [fn22, vt22, VT.val, X.outs, X.ds, X.d, Op2.ev, takeD_zero, takeD_cons, List.cons_append, List.nil_append, List.getD_cons_zero, List.getD_cons_succ, D.int_i, D.bool_b, ite_b, ite_and, imin, imax, show T22 27 = fn27 from rfl, fn27_eq, ovl, vq]
theorem fn23_eq (a b : Bx) : fn23 [.i a.1, .i a.2.1, .i a.2.2.1, .i a.2.2.2, .i b.1, .i b.2.1, .i b.2.2.1, .i b.2.2.2] = [.b (ovl a b)] := by
  simp only [fn23, vt23, VT.val, X.outs, X.ds, X.d, Op2.ev, takeD_zero, takeD_cons, List.cons_append, List.nil_append, List.getD_cons_zero, List.getD_cons_succ, D.int_i, D.bool_b, ite_b, ite_and, imin, imax, show T23 16 = fn16 from rfl, fn16_eq, ovl, vq]
theorem infl_no {q : Bx} {k : Int} (h : vq q = false ∨ k < -536870912 ∨ 536870912 < k) : infl q k = (0, 0, 0, 0) := by
  unfold infl
  rw [if_neg]
  rintro ⟨h1, h2, h3, _⟩
  rcases h with h | h | h
  · rw [h] at h1; cases h1
  · omega
  · omega
theorem fn21_eq (q : Bx) (k : Int) : fn21 [.i q.1, .i q.2.1, .i q.2.2.1, .i q.2.2.2, .i k] = encQ (infl q k) := by
  simp only [fn21, vt21, VT.val, X.outs, X.ds, X.d, Op1.ev, Op2.ev, takeD_zero, takeD_cons, List.cons_append, List.nil_append, List.getD_cons_zero, List.getD_cons_succ, D.int_i, D.bool_b, ite_b, ite_or, show T21 27 = fn27 from rfl, show T21 28 = fn28 from rfl, fn27_eq]
  cases hv : bv q.1 q.2.1 q.2.2.1 q.2.2.2 with
  | false => rw [infl_no (.inl hv)]; rfl
  | true =>
    by_cases h1 : 536870912 < k
    · rw [infl_no (.inr (.inr h1))]; simp [h1]; rfl
    · by_cases h2 : k < -536870912
      · rw [infl_no (.inr (.inl h2))]; simp [h2]; rfl
      · have := bv_iff.1 hv
        have e1 : IntKind.i64.wrap (q.1 - k) = q.1 - k := w64 (by omega)
        have e2 : IntKind.i64.wrap (q.2.1 - k) = q.2.1 - k := w64 (by omega)
        have e3 : IntKind.i64.wrap (q.2.2.1 + k) = q.2.2.1 + k := w64 (by omega)
        have e4 : IntKind.i64.wrap (q.2.2.2 + k) = q.2.2.2 + k := w64 (by omega)
        have h3 : -536870912 ≤ k := by omega
        have h4 : k ≤ 536870912 := by omega
        simp only [h1, h2, decide_false, Bool.not_true, Bool.or_self, Bool.false_eq_true, if_false, e1, e2, e3, e4, fn28_eq, infl, vq, hv, h3, h4, true_and]
        cases hw : bv (q.1 - k) (q.2.1 - k) (q.2.2.1 + k) (q.2.2.2 + k) <;> rfl
theorem fn24_eq (q : Bx) (k : Int) : fn24 [.i q.1, .i q.2.1, .i q.2.2.1, .i q.2.2.2, .i k] = encQ (infl q k) := by
  simp only [fn24, vt24, VT.val, X.outs, X.ds, X.d, Op1.ev, Op2.ev, takeD_zero, takeD_cons, List.cons_append, List.nil_append, List.getD_cons_zero, List.getD_cons_succ, D.int_i, D.bool_b, ite_b, ite_or, show T24 16 = fn16 from rfl, fn16_eq]
  cases hv : bv q.1 q.2.1 q.2.2.1 q.2.2.2 with
  | false => rw [infl_no (.inl hv)]; rfl
  | true =>
    by_cases h1 : 536870912 < k
    · rw [infl_no (.inr (.inr h1))]; simp [h1]; rfl
    · by_cases h2 : k < -536870912
      · rw [infl_no (.inr (.inl h2))]; simp [h2]; rfl
      · have := bv_iff.1 hv
        have e1 : IntKind.i64.wrap (q.1 - k) = q.1 - k := w64 (by omega)
        have e2 : IntKind.i64.wrap (q.2.1 - k) = q.2.1 - k := w64 (by omega)
        have e3 : IntKind.i64.wrap (q.2.2.1 + k) = q.2.2.1 + k := w64 (by omega)
        have e4 : IntKind.i64.wrap (q.2.2.2 + k) = q.2.2.2 + k := w64 (by omega)
        have h3 : -536870912 ≤ k := by omega
        have h4 : k ≤ 536870912 := by omega
        simp only [h1, h2, decide_false, Bool.not_true, Bool.or_self, Bool.false_eq_true, if_false, e1, e2, e3, e4, infl, vq, hv, h3, h4, true_and]
        cases hw : bv (q.1 - k) (q.2.1 - k) (q.2.2.1 + k) (q.2.2.2 + k) <;> rfl
end Go.Proofs.Ytnfndnaddnoiaaa.rv
