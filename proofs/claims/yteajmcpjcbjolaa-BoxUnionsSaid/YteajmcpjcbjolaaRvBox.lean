/-
  The box package and its reference as functions of data.
-/
import Derived.Test.YteajmcpjcbjolaaRvFns03a
namespace Go.Proofs.Yteajmcpjcbjolaa.rv
open Go.RV

/-- a point within the bounds -/
def pv (x y : Int) : Bool := decide (-268435456 ≤ x) && decide (x ≤ 268435456) && decide (-268435456 ≤ y) && decide (y ≤ 268435456)
def bv (a b c d : Int) : Bool := pv a b && pv c d && decide (a ≤ c) && decide (b ≤ d)

theorem d_ite (c : Bool) (x y : D) : (if c = true then x else y).bool = (if c = true then x.bool else y.bool) := by cases c <;> rfl

theorem fn31_eq (x y : Int) : fn31 [.i x, .i y] = [.b (pv x y)] := by
  simp only [fn31, vt31, VT.val, X.ds, X.d, Op2.ev, List.getD_cons_zero, List.getD_cons_succ, D.int_i, D.bool_b, pv]
  cases decide (-268435456 ≤ x) <;> cases decide (x ≤ 268435456) <;> cases decide (-268435456 ≤ y) <;> cases decide (y ≤ 268435456) <;> rfl
theorem fn21_eq (x y : Int) : fn21 [.i x, .i y] = [.b (pv x y)] := by
  simp only [fn21, vt21, VT.val, X.ds, X.d, Op2.ev, List.getD_cons_zero, List.getD_cons_succ, D.int_i, D.bool_b, pv]
  cases decide (-268435456 ≤ x) <;> cases decide (x ≤ 268435456) <;> cases decide (-268435456 ≤ y) <;> cases decide (y ≤ 268435456) <;> rfl

theorem T9_31 : T9 31 = fn31 := rfl
theorem T10_21 : T10 21 = fn21 := rfl

theorem fn9_eq (a b c d : Int) : fn9 [.i a, .i b, .i c, .i d] = [.b (bv a b c d)] := by
  simp only [fn9, vt9, VT.val, X.ds, X.d, Op2.ev, List.getD_cons_zero, List.getD_cons_succ, D.int_i, D.bool_b, T9_31, fn31_eq, bv]
  cases pv a b <;> cases pv c d <;> cases decide (a ≤ c) <;> cases decide (b ≤ d) <;> rfl
theorem fn10_eq (a b c d : Int) : fn10 [.i a, .i b, .i c, .i d] = [.b (bv a b c d)] := by
  simp only [fn10, vt10, VT.val, X.ds, X.d, Op2.ev, List.getD_cons_zero, List.getD_cons_succ, D.int_i, D.bool_b, T10_21, fn21_eq, bv]
  cases pv a b <;> cases pv c d <;> cases decide (a ≤ c) <;> cases decide (b ≤ d) <;> rfl

theorem bv_spec {a b c d : Int} (h : bv a b c d = true) : (-268435456 ≤ a ∧ a ≤ 268435456 ∧ -268435456 ≤ b ∧ b ≤ 268435456) ∧ (-268435456 ≤ c ∧ c ≤ 268435456 ∧ -268435456 ≤ d ∧ d ≤ 268435456) ∧ a ≤ c ∧ b ≤ d := by
  simp only [bv, pv, Bool.and_eq_true, decide_eq_true_eq] at h
  omega

/-- half, downwards -/
def half (x : Int) : Int := x / 2

theorem tdiv2 (x : Int) : x.tdiv 2 = if x < 0 then -((-x) / 2) else x / 2 := by
  split
  · have h := Int.neg_tdiv (-x) 2
    rw [Int.neg_neg] at h
    rw [h, Int.tdiv_eq_ediv_of_nonneg (by omega)]
  · exact Int.tdiv_eq_ediv_of_nonneg (by omega)
theorem tmod2 (x : Int) : x.tmod 2 = x - 2 * x.tdiv 2 := by have := Int.mul_tdiv_add_tmod x 2; omega
theorem fdiv2 (x : Int) : x.fdiv (2 ^ (Nat.min ((1 : Int).toNat) IntKind.i64.bits)) = x / 2 := by
  have e : ((2 : Int) ^ (Nat.min ((1 : Int).toNat) IntKind.i64.bits)) = 2 := by decide
  rw [e]
  exact Int.fdiv_eq_ediv_of_nonneg x (by omega)

theorem fn11_eq (a b c d : Int) : fn11 [.i a, .i b, .i c, .i d] = if bv a b c d = true then [.i (half (a + c)), .i (half (b + d))] else [.i 0, .i 0] := by
  simp only [fn11, vt11, VT.val, X.ds, X.d, Op1.ev, Op2.ev, List.getD_cons_zero, List.getD_cons_succ, D.int_i, D.bool_b, show T11 9 = fn9 from rfl, fn9_eq]
  cases h : bv a b c d with
  | false => rfl
  | true =>
    have := bv_spec h
    simp only [Bool.not_true, Bool.false_eq_true, if_false, if_true, wrap_i64, half, fdiv2]
    congr 2 <;> (try congr 1) <;> omega

theorem fn32_eq (x : Int) (h : -1073741824 ≤ x ∧ x ≤ 1073741824) : fn32 [.i x] = [.i (half x)] := by
  simp only [fn32, vt32, VT.val, X.ds, X.d, Op1.ev, Op2.ev, List.getD_cons_zero, D.int_i, D.bool_b, tmod2, half, wrap_i64, tdiv2]
  by_cases h1 : x < 0
  · by_cases h2 : x - 2 * -((-x) / 2) = 0
    · simp only [h1, h2, if_true, decide_true, beq_self_eq_true, Bool.not_true, D.bool_b, Bool.false_eq_true, if_false]
      congr 2; omega
    · simp only [h1, if_true, decide_true, D.bool_b, beq_eq_false_iff_ne.2 h2, Bool.not_false]
      congr 2; omega
  · simp only [h1, if_false, decide_false, Bool.false_eq_true, D.bool_b]
    congr 2; omega

theorem fn12_eq (a b c d : Int) : fn12 [.i a, .i b, .i c, .i d] = if bv a b c d = true then [.i (half (a + c)), .i (half (b + d))] else [.i 0, .i 0] := by
  simp only [fn12, vt12, VT.val, X.ds, X.d, Op1.ev, Op2.ev, List.getD_cons_zero, List.getD_cons_succ, D.int_i, D.bool_b, show T12 10 = fn10 from rfl, show T12 32 = fn32 from rfl, fn10_eq]
  cases h : bv a b c d with
  | false => rfl
  | true =>
    have := bv_spec h
    have e1 : IntKind.i64.wrap (a + c) = a + c := by rw [wrap_i64]; omega
    have e2 : IntKind.i64.wrap (b + d) = b + d := by rw [wrap_i64]; omega
    simp only [Bool.not_true, Bool.false_eq_true, if_false, if_true, e1, e2]
    rw [fn32_eq _ (by omega), fn32_eq _ (by omega)]
    rfl

theorem fn33_eq (a b c d : Int) : fn33 [.i a, .i b, .i c, .i d] = if bv a b c d = true then [.i a, .i b, .i c, .i d] else [.i 0, .i 0, .i 0, .i 0] := by
  simp only [fn33, vt33, VT.val, X.ds, X.d, Op1.ev, List.getD_cons_zero, List.getD_cons_succ, D.bool_b, show T33 9 = fn9 from rfl, fn9_eq]
  cases h : bv a b c d <;> rfl

def makeOk (x y w h : Int) : Bool := pv x y && decide (0 ≤ w) && decide (w ≤ 1048576) && decide (0 ≤ h) && decide (h ≤ 1048576)
def made (x y w h : Int) : List D := if makeOk x y w h = true ∧ bv (x - w / 2) (y - h / 2) (x - w / 2 + w) (y - h / 2 + h) = true then [.i (x - w / 2), .i (y - h / 2), .i (x - w / 2 + w), .i (y - h / 2 + h)] else [.i 0, .i 0, .i 0, .i 0]

theorem make_cond (x y w h : Int) : (if (if (if (if (!pv x y) = true then true else decide (w < 0)) = true then true else decide (1048576 < w)) = true then true else decide (h < 0)) = true then true else decide (1048576 < h)) = !makeOk x y w h := by
  unfold makeOk
  cases pv x y <;> simp
  by_cases h1 : w < 0 <;> by_cases h2 : 1048576 < w <;> by_cases h3 : h < 0 <;> by_cases h4 : 1048576 < h <;> simp [h1, h2, h3, h4] <;> omega

theorem makeOk_spec {x y w h : Int} (hm : makeOk x y w h = true) : (-268435456 ≤ x ∧ x ≤ 268435456 ∧ -268435456 ≤ y ∧ y ≤ 268435456) ∧ 0 ≤ w ∧ w ≤ 1048576 ∧ 0 ≤ h ∧ h ≤ 1048576 := by
  simp only [makeOk, pv, Bool.and_eq_true, decide_eq_true_eq] at hm
  omega

theorem fn13_eq (x y w h : Int) : fn13 [.i x, .i y, .i w, .i h] = made x y w h := by
  simp only [fn13, vt13, VT.val, X.ds, X.d, Op1.ev, Op2.ev, List.getD_cons_zero, List.getD_cons_succ, D.int_i, D.bool_b, show T13 31 = fn31 from rfl, show T13 33 = fn33 from rfl, fn31_eq, d_ite, make_cond]
  unfold made
  cases hm : makeOk x y w h with
  | false => simp
  | true =>
    have := makeOk_spec hm
    have e1 : w.tdiv 2 = w / 2 := Int.tdiv_eq_ediv_of_nonneg (by omega)
    have e2 : h.tdiv 2 = h / 2 := Int.tdiv_eq_ediv_of_nonneg (by omega)
    have e3 : IntKind.i64.wrap (w / 2) = w / 2 := by rw [wrap_i64]; omega
    have e4 : IntKind.i64.wrap (h / 2) = h / 2 := by rw [wrap_i64]; omega
    have e5 : IntKind.i64.wrap (x - w / 2) = x - w / 2 := by rw [wrap_i64]; omega
    have e6 : IntKind.i64.wrap (y - h / 2) = y - h / 2 := by rw [wrap_i64]; omega
    have e7 : IntKind.i64.wrap (x - w / 2 + w) = x - w / 2 + w := by rw [wrap_i64]; omega
    have e8 : IntKind.i64.wrap (y - h / 2 + h) = y - h / 2 + h := by rw [wrap_i64]; omega
    simp only [e1, e2, e3, e4, e5, e6, e7, e8, fn33_eq, Bool.not_true, Bool.false_eq_true, if_false, true_and]
    split <;> rfl

theorem fn14_eq (x y w h : Int) : fn14 [.i x, .i y, .i w, .i h] = made x y w h := by
  simp only [fn14, vt14, VT.val, X.ds, X.d, Op1.ev, Op2.ev, List.getD_cons_zero, List.getD_cons_succ, D.int_i, D.bool_b, show T14 21 = fn21 from rfl, show T14 10 = fn10 from rfl, fn21_eq, fn10_eq, d_ite, make_cond]
  unfold made
  cases hm : makeOk x y w h with
  | false => simp
  | true =>
    have := makeOk_spec hm
    have e1 : w.tdiv 2 = w / 2 := Int.tdiv_eq_ediv_of_nonneg (by omega)
    have e2 : h.tdiv 2 = h / 2 := Int.tdiv_eq_ediv_of_nonneg (by omega)
    have e3 : IntKind.i64.wrap (w / 2) = w / 2 := by rw [wrap_i64]; omega
    have e4 : IntKind.i64.wrap (h / 2) = h / 2 := by rw [wrap_i64]; omega
    have e5 : IntKind.i64.wrap (x - w / 2) = x - w / 2 := by rw [wrap_i64]; omega
    have e6 : IntKind.i64.wrap (y - h / 2) = y - h / 2 := by rw [wrap_i64]; omega
    have e7 : IntKind.i64.wrap (x - w / 2 + w) = x - w / 2 + w := by rw [wrap_i64]; omega
    have e8 : IntKind.i64.wrap (y - h / 2 + h) = y - h / 2 + h := by rw [wrap_i64]; omega
    simp only [e1, e2, e3, e4, e5, e6, e7, e8, Bool.not_true, Bool.false_eq_true, if_false, true_and]
    cases bv (x - w / 2) (y - h / 2) (x - w / 2 + w) (y - h / 2 + h) <;> simp

theorem fn15_eq : fn15 [] = [.b true] := by kernel_rfl

theorem made_cases (x y w h : Int) : made x y w h = [.i 0, .i 0, .i 0, .i 0] ∨ ∃ a b c d, made x y w h = [.i a, .i b, .i c, .i d] ∧ bv a b c d = true ∧ half (a + c) = x ∧ half (b + d) = y ∧ IntKind.i64.wrap (c - a) = w ∧ IntKind.i64.wrap (d - b) = h := by
  unfold made
  split
  · rename_i hc
    obtain ⟨h1, h2⟩ := hc
    have := makeOk_spec h1
    refine .inr ⟨_, _, _, _, rfl, h2, ?_, ?_, ?_, ?_⟩ <;> simp only [half, wrap_i64] <;> omega
  · exact .inl rfl

theorem fn3_eq (b0 b1 b2 b3 x y w h : Int) : fn3 [.i b0, .i b1, .i b2, .i b3, .i x, .i y, .i w, .i h] = [.b true] := by
  have hc : fn11 [.i b0, .i b1, .i b2, .i b3] = fn12 [.i b0, .i b1, .i b2, .i b3] := by rw [fn11_eq, fn12_eq]
  simp only [fn3, vt3, VT.val, X.ds, X.d, Op1.ev, Op2.ev, List.getD_cons_zero, List.getD_cons_succ, D.int_i, D.bool_b, show T3 9 = fn9 from rfl, show T3 10 = fn10 from rfl, show T3 11 = fn11 from rfl, show T3 12 = fn12 from rfl, show T3 13 = fn13 from rfl, show T3 14 = fn14 from rfl, show T3 15 = fn15 from rfl,
    fn9_eq, fn10_eq, hc, fn13_eq, fn14_eq, beq_self_eq_true, if_true, Bool.not_true, Bool.false_eq_true, if_false, fn15_eq]
  rcases made_cases x y w h with hm | ⟨a, b, c, d, hm, h1, h2, h3, h4, h5⟩
  · simp only [hm, List.getD_cons_zero, List.getD_cons_succ, D.int_i, beq_self_eq_true, D.bool_b, if_true]
  · simp only [hm, List.getD_cons_zero, List.getD_cons_succ, D.int_i, fn11_eq, h1, h2, h3, h4, h5, beq_self_eq_true, D.bool_b, if_true, ite_self]

theorem law3 : Meets Try.prog 3 S3 (fun _ => True) (fun _ => [.b true]) := m3.to fun ds hf _ => by
  refine ⟨trivial, ?_⟩
  match ds, hf.flat with
  | [d0, d1, d2, d3, d4, d5, d6, d7], ⟨h0, h1, h2, h3, h4, h5, h6, h7, _⟩ =>
    obtain ⟨x0, rfl, _⟩ := wf_i64 h0
    obtain ⟨x1, rfl, _⟩ := wf_i64 h1
    obtain ⟨x2, rfl, _⟩ := wf_i64 h2
    obtain ⟨x3, rfl, _⟩ := wf_i64 h3
    obtain ⟨x4, rfl, _⟩ := wf_i64 h4
    obtain ⟨x5, rfl, _⟩ := wf_i64 h5
    obtain ⟨x6, rfl, _⟩ := wf_i64 h6
    obtain ⟨x7, rfl, _⟩ := wf_i64 h7
    exact fn3_eq ..
end Go.Proofs.Yteajmcpjcbjolaa.rv
