/-
  Boxes and points: the program's functions and the reference's as functions of data.
-/
import Derived.Test.YtdehhmcfhaeheaaRvRows2
import Derived.Test.YtdehhmcfhaeheaaRvFns
namespace Go.Proofs.Ytdehhmcfhaeheaa.rv
open Go.RV

/-- a point within the bounds -/
def pv (x y : Int) : Bool := decide (-268435456 ≤ x) && decide (x ≤ 268435456) && decide (-268435456 ≤ y) && decide (y ≤ 268435456)
def bv (a b c d : Int) : Bool := pv a b && pv c d && decide (a ≤ c) && decide (b ≤ d)
def vq (q : Bx) : Bool := bv q.1 q.2.1 q.2.2.1 q.2.2.2
theorem pv_iff {x y : Int} : pv x y = true ↔ (-268435456 ≤ x ∧ x ≤ 268435456) ∧ -268435456 ≤ y ∧ y ≤ 268435456 := by
  simp only [pv, Bool.and_eq_true, decide_eq_true_eq]; omega
theorem bv_iff {a b c d : Int} : bv a b c d = true ↔ ((-268435456 ≤ a ∧ a ≤ 268435456) ∧ -268435456 ≤ b ∧ b ≤ 268435456) ∧ ((-268435456 ≤ c ∧ c ≤ 268435456) ∧ -268435456 ≤ d ∧ d ≤ 268435456) ∧ a ≤ c ∧ b ≤ d := by
  simp only [bv, pv, Bool.and_eq_true, decide_eq_true_eq]; omega
theorem vq_iff {q : Bx} : vq q = true ↔ ((-268435456 ≤ q.1 ∧ q.1 ≤ 268435456) ∧ -268435456 ≤ q.2.1 ∧ q.2.1 ≤ 268435456) ∧ ((-268435456 ≤ q.2.2.1 ∧ q.2.2.1 ≤ 268435456) ∧ -268435456 ≤ q.2.2.2 ∧ q.2.2.2 ≤ 268435456) ∧ q.1 ≤ q.2.2.1 ∧ q.2.1 ≤ q.2.2.2 := bv_iff

/-- do the interiors meet? -/
def ovl (a b : Bx) : Bool := vq a && vq b && decide (max a.1 b.1 < min a.2.2.1 b.2.2.1) && decide (max a.2.1 b.2.1 < min a.2.2.2 b.2.2.2)
def infl (q : Bx) (k : Int) : Bx := if vq q = true ∧ -536870912 ≤ k ∧ k ≤ 536870912 ∧ bv (q.1 - k) (q.2.1 - k) (q.2.2.1 + k) (q.2.2.2 + k) = true then (q.1 - k, q.2.1 - k, q.2.2.1 + k, q.2.2.2 + k) else (0, 0, 0, 0)

theorem pv_or {x y : Int} : (!pv x y) = (decide (x < -268435456) || decide (268435456 < x) || decide (y < -268435456) || decide (268435456 < y)) := by
  cases h : pv x y
  · have : ¬ pv x y = true := by simp [h]
    rw [pv_iff] at this
    rw [Bool.not_false, eq_comm]
    simp only [Bool.or_eq_true, decide_eq_true_eq]; omega
  · rw [pv_iff] at h
    rw [Bool.not_true, eq_comm, Bool.eq_false_iff]
    intro hc
    simp only [Bool.or_eq_true, decide_eq_true_eq] at hc
    omega

theorem fn29_eq (x y : Int) : fn29 [.i x, .i y] = [.b (pv x y)] := by
  simp only [fn29, vt29, VT.val, X.ds, X.d, Op2.ev, List.getD_cons_zero, List.getD_cons_succ, D.int_i, D.bool_b, ite_b, ite_and, pv, Bool.and_assoc]
theorem fn33_eq (x y : Int) : fn33 [.i x, .i y] = [.b (pv x y)] := by
  simp only [fn33, vt33, VT.val, X.ds, X.d, Op2.ev, List.getD_cons_zero, List.getD_cons_succ, D.int_i, D.bool_b, ite_b, ite_and, pv, Bool.and_assoc]
end Go.Proofs.Ytdehhmcfhaeheaa.rv
