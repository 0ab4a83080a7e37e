/-
  Products of 128 bits; segments and tolerances: the program's functions and the reference's.
-/
import Derived.Test.YtpnfcopgmeggoaaRvSc2
import Derived.Test.YtpnfcopgmeggoaaRvFns
namespace Go.RV
open Go.RowKit
theorem le_parts {x y M : Int} (hM : 0 < M) : (decide (x / M < y / M) || ((x / M == y / M) && decide (x % M ≤ y % M))) = decide (x ≤ y) := by
  rw [Bool.eq_iff_iff]
  simp only [Bool.or_eq_true, Bool.and_eq_true, decide_eq_true_eq, beq_iff_eq]
  have h1 := Int.emod_add_mul_ediv x M
  have h2 := Int.emod_add_mul_ediv y M
  have h3 := Int.emod_nonneg x (by omega : M ≠ 0)
  have h4 := Int.emod_nonneg y (by omega : M ≠ 0)
  have h5 := Int.emod_lt_of_pos x hM
  have h6 := Int.emod_lt_of_pos y hM
  constructor
  · rintro (h | ⟨h, h'⟩)
    · have : M * (x / M + 1) ≤ M * (y / M) := Int.mul_le_mul_of_nonneg_left (by omega) (by omega)
      rw [Int.mul_add] at this
      omega
    · rw [h] at h1; omega
  · intro h
    by_cases h7 : x / M < y / M
    · exact .inl h7
    · refine .inr ?_
      have h8 : x / M ≤ y / M := Int.ediv_le_ediv hM h
      have e : x / M = y / M := by omega
      rw [e] at h1
      exact ⟨e, by omega⟩
theorem wu64 {n : Int} (h : 0 ≤ n ∧ n < 18446744073709551616) : IntKind.u64.wrap n = n := by
  have : IntKind.u64.wrap n = n % 18446744073709551616 := by simp [IntKind.wrap, IntKind.signed, IntKind.bits]
  rw [this]; omega
theorem wu64' (n : Int) : IntKind.u64.wrap n = n % 18446744073709551616 := by simp [IntKind.wrap, IntKind.signed, IntKind.bits]
theorem and32 {n : Int} (h : 0 ≤ n ∧ n < 18446744073709551616) : IntKind.u64.wrap ((BitVec.ofInt IntKind.u64.bits n &&& BitVec.ofInt IntKind.u64.bits 4294967295).toNat) = n % 4294967296 := by
  have e : (BitVec.ofInt 64 n &&& BitVec.ofInt 64 4294967295).toNat = (n % 4294967296).toNat := by
    rw [BitVec.toNat_and, BitVec.toNat_ofInt, BitVec.toNat_ofInt]
    have h1 : (n % ((2 : Nat) ^ 64 : Nat)).toNat = n.toNat := by
      rw [Int.emod_eq_of_lt h.1 (by simpa using h.2)]
    have h2 : ((4294967295 : Int) % ((2 : Nat) ^ 64 : Nat)).toNat = 2 ^ 32 - 1 := by decide
    rw [h1, h2, Nat.and_two_pow_sub_one_eq_mod]
    omega
  show IntKind.u64.wrap ((BitVec.ofInt 64 n &&& BitVec.ofInt 64 4294967295).toNat) = _
  rw [e, wu64 (by omega)]
  omega
theorem shr32 {n : Int} (_ : 0 ≤ n) : n.fdiv (2 ^ (Nat.min (Int.toNat 32) IntKind.u64.bits)) = n / 4294967296 := by
  show n.fdiv 4294967296 = _
  rw [Int.fdiv_eq_ediv_of_nonneg _ (by omega)]
theorem m64 (p q r s : Int) (_h1 : 0 ≤ p) (_h2 : 0 ≤ q) (_h3 : 0 ≤ r) (_h4 : 0 ≤ s) : (p + (q + s / 4294967296) / 4294967296) + ((q + s / 4294967296) % 4294967296 + r) / 4294967296 = (p * 18446744073709551616 + (q + r) * 4294967296 + s) / 18446744073709551616 := by omega
theorem parts32 {a b : Int} : a * b = (a / 4294967296 * (b / 4294967296)) * 18446744073709551616 + (a / 4294967296 * (b % 4294967296) + a % 4294967296 * (b / 4294967296)) * 4294967296 + a % 4294967296 * (b % 4294967296) := by
  have h1 := Int.emod_add_mul_ediv a 4294967296
  have h2 := Int.emod_add_mul_ediv b 4294967296
  generalize a / 4294967296 = x at *
  generalize b / 4294967296 = y at *
  generalize a % 4294967296 = u at *
  generalize b % 4294967296 = v at *
  subst h1 h2
  grind
theorem parts31 {a b : Int} : a * b = (a / 2147483648 * (b / 2147483648)) * 4611686018427387904 + (a / 2147483648 * (b % 2147483648) + a % 2147483648 * (b / 2147483648)) * 2147483648 + a % 2147483648 * (b % 2147483648) := by
  have h1 := Int.emod_add_mul_ediv a 2147483648
  have h2 := Int.emod_add_mul_ediv b 2147483648
  generalize a / 2147483648 = x at *
  generalize b / 2147483648 = y at *
  generalize a % 2147483648 = u at *
  generalize b % 2147483648 = v at *
  subst h1 h2
  grind
theorem m62a (p m s : Int) (_h1 : 0 ≤ p) (_h2 : 0 ≤ m) (_h4 : 0 ≤ s) : (p + m / 2147483648) + (m % 2147483648 * 2147483648 + s) / 4611686018427387904 = (p * 4611686018427387904 + m * 2147483648 + s) / 4611686018427387904 := by omega
theorem m62b (p m s : Int) (_h1 : 0 ≤ p) (_h2 : 0 ≤ m) (_h4 : 0 ≤ s) : (m % 2147483648 * 2147483648 + s) % 4611686018427387904 = (p * 4611686018427387904 + m * 2147483648 + s) % 4611686018427387904 := by omega
theorem mul_bd0 {a b p q : Int} (ha : 0 ≤ a ∧ a ≤ p) (hb : 0 ≤ b ∧ b ≤ q) : 0 ≤ a * b ∧ a * b ≤ p * q := ⟨Int.mul_nonneg ha.1 hb.1, Int.mul_le_mul ha.2 hb.2 hb.1 (by omega)⟩
end Go.RV
namespace Go.Proofs.Ytpnfcopgmeggoaa.rv
open Go.RV
/-! ### points and boxes -/
theorem fn23_eq (a b : D) : fn23 [a, b] = [.b (ptB a.int b.int)] := by
  simp only [fn23, vt23, VT.val, X.ds, X.d, Op2.ev, List.getD_cons_zero, List.getD_cons_succ, D.int_i, D.bool_b, ite_b, ite_and, ptB, Bool.and_assoc]
theorem fn27_eq (a b : D) : fn27 [a, b] = [.b (ptB a.int b.int)] := by
  simp only [fn27, vt27, VT.val, X.ds, X.d, Op2.ev, List.getD_cons_zero, List.getD_cons_succ, D.int_i, D.bool_b, ite_b, ite_and, ptB, Bool.and_assoc]
theorem fn56_eq (a b : D) : fn56 [a, b] = [.b (ptB a.int b.int)] := by
  simp only [fn56, vt56, VT.val, X.ds, X.d, Op2.ev, List.getD_cons_zero, List.getD_cons_succ, D.int_i, D.bool_b, ite_b, ite_and, ptB, Bool.and_assoc]
theorem fn41_eq (a b : D) : fn41 [a, b] = [.b (ptB a.int b.int)] := by
  simp only [fn41, vt41, VT.val, X.ds, X.d, Op2.ev, List.getD_cons_zero, List.getD_cons_succ, D.int_i, D.bool_b, ite_b, ite_and, ptB, Bool.and_assoc]
theorem fn35_eq (a b c d : D) : fn35 [a, b, c, d] = [.b (bxB a.int b.int c.int d.int)] := by
  simp only [fn35, vt35, VT.val, X.outs, X.ds, X.d, Op2.ev, takeD_zero, takeD_cons, List.cons_append, List.nil_append, List.getD_cons_zero, List.getD_cons_succ, D.bool_b, ite_b, ite_and, show T35 23 = fn23 from rfl, fn23_eq, bxB]
theorem fn38_eq (a b c d : D) : fn38 [a, b, c, d] = [.b (bxB a.int b.int c.int d.int)] := by
  simp only [fn38, vt38, VT.val, X.outs, X.ds, X.d, Op2.ev, takeD_zero, takeD_cons, List.cons_append, List.nil_append, List.getD_cons_zero, List.getD_cons_succ, D.bool_b, ite_b, ite_and, show T38 56 = fn56 from rfl, fn56_eq, bxB]
theorem fn55_eq (a b c d : D) : fn55 [a, b, c, d] = [.b (bxB a.int b.int c.int d.int)] := by
  simp only [fn55, vt55, VT.val, X.ds, X.d, Op2.ev, List.getD_cons_zero, List.getD_cons_succ, D.int_i, D.bool_b, ite_b, ite_and]
  congr 2
  rw [Bool.eq_iff_iff, bxB_iff]
  simp only [Bool.and_eq_true, decide_eq_true_eq]
  omega
theorem fn53_eq (a b c d x y : D) : fn53 [a, b, c, d, x, y] = [.b (hasB (a.int, b.int, c.int, d.int) x.int y.int)] := by
  simp only [fn53, vt53, VT.val, X.outs, X.ds, X.d, Op2.ev, takeD_zero, takeD_cons, List.cons_append, List.nil_append, List.getD_cons_zero, List.getD_cons_succ, D.bool_b, ite_b, ite_and, show T53 35 = fn35 from rfl, show T53 23 = fn23 from rfl, fn35_eq, fn23_eq, hasB, bxQ]
theorem fn54_eq (a b c d x y : D) : fn54 [a, b, c, d, x, y] = [.b (hasB (a.int, b.int, c.int, d.int) x.int y.int)] := by
  simp only [fn54, vt54, VT.val, X.outs, X.ds, X.d, Op2.ev, takeD_zero, takeD_cons, List.cons_append, List.nil_append, List.getD_cons_zero, List.getD_cons_succ, D.bool_b, ite_b, ite_and, show T54 38 = fn38 from rfl, show T54 56 = fn56 from rfl, fn38_eq, fn56_eq, hasB, bxQ]
theorem fn37_eq (a b c d e f g h : D) : fn37 [a, b, c, d, e, f, g, h] = [.b (inB (a.int, b.int, c.int, d.int) (e.int, f.int, g.int, h.int))] := by
  simp only [fn37, vt37, VT.val, X.outs, X.ds, X.d, Op2.ev, takeD_zero, takeD_cons, List.cons_append, List.nil_append, List.getD_cons_zero, List.getD_cons_succ, D.bool_b, ite_b, ite_and, show T37 35 = fn35 from rfl, fn35_eq, inB, bxQ]
theorem fn40_eq (a b c d e f g h : D) : fn40 [a, b, c, d, e, f, g, h] = [.b (inB (a.int, b.int, c.int, d.int) (e.int, f.int, g.int, h.int))] := by
  simp only [fn40, vt40, VT.val, X.outs, X.ds, X.d, takeD_zero, takeD_cons, List.cons_append, List.nil_append, List.getD_cons_zero, List.getD_cons_succ, D.bool_b, ite_b, ite_and, show T40 38 = fn38 from rfl, show T40 54 = fn54 from rfl, fn38_eq, fn54_eq]
  congr 2
  rw [Bool.eq_iff_iff]
  simp only [inB, hasB, bxQ, Bool.and_eq_true, decide_eq_true_eq, bxB_iff, ptB_iff]
  omega
theorem fn24_eq (a : D) : fn24 [a] = [.b (tlB a.int)] := by
  simp only [fn24, vt24, VT.val, X.ds, X.d, Op2.ev, List.getD_cons_zero, D.int_i, D.bool_b, ite_b, ite_and, tlB]
theorem fn28_eq (a : D) : fn28 [a] = [.b (tlB a.int)] := by
  simp only [fn28, vt28, VT.val, X.ds, X.d, Op2.ev, List.getD_cons_zero, D.int_i, D.bool_b, ite_b, ite_and, tlB]

/-! ### products -/
theorem fn59_eq {a b : Int} (ha : 0 ≤ a ∧ a < 18446744073709551616) (hb : 0 ≤ b ∧ b < 18446744073709551616) : fn59 [.i a, .i b] = [.i (a * b / 18446744073709551616), .i (a * b % 18446744073709551616)] := by
  have hx1 : 0 ≤ a / 4294967296 ∧ a / 4294967296 ≤ 4294967295 := by omega
  have hy1 : 0 ≤ b / 4294967296 ∧ b / 4294967296 ≤ 4294967295 := by omega
  have hx0 : 0 ≤ a % 4294967296 ∧ a % 4294967296 ≤ 4294967295 := by omega
  have hy0 : 0 ≤ b % 4294967296 ∧ b % 4294967296 ≤ 4294967295 := by omega
  have p11 := mul_bd0 hx1 hy1
  have p10 := mul_bd0 hx1 hy0
  have p01 := mul_bd0 hx0 hy1
  have p00 := mul_bd0 hx0 hy0
  simp only [fn59, vt59, VT.val, X.ds, X.d, Op2.ev, List.getD_cons_zero, List.getD_cons_succ, D.int_i]
  rw [and32 ha, and32 hb, shr32 ha.1, shr32 hb.1, wu64 (n := a % 4294967296 * (b % 4294967296)) (by omega), shr32 p00.1, wu64 (n := a / 4294967296 * (b % 4294967296)) (by omega), wu64 (n := a / 4294967296 * (b / 4294967296)) (by omega), wu64 (n := a % 4294967296 * (b / 4294967296)) (by omega), wu64' (a * b)]
  have key := m64 _ _ _ _ p11.1 p10.1 p01.1 p00.1
  rw [← parts32] at key
  rw [← key]
  generalize a / 4294967296 * (b % 4294967296) = q at *
  generalize a % 4294967296 * (b % 4294967296) = u at *
  generalize a / 4294967296 * (b / 4294967296) = p at *
  generalize a % 4294967296 * (b / 4294967296) = r at *
  rw [wu64 (n := q + u / 4294967296) (by omega), and32 (n := q + u / 4294967296) (by omega), shr32 (n := q + u / 4294967296) (by omega), wu64 (n := (q + u / 4294967296) % 4294967296 + r) (by omega), shr32 (by omega)]
  rw [wu64 (n := p + (q + u / 4294967296) / 4294967296) (by omega), wu64 (by omega)]
theorem fn45_eq {a b : Int} (ha : 0 ≤ a ∧ a < 9223372036854775808) (hb : 0 ≤ b ∧ b < 9223372036854775808) : fn45 [.i a, .i b] = [.i (a * b / 18446744073709551616), .i (a * b % 18446744073709551616)] := by
  have e := fn59_eq (a := a) (b := b) (by omega) (by omega)
  simp only [fn45, vt45, VT.val, X.outs, X.ds, X.d, Op1.ev, takeD_zero, takeD_cons, List.cons_append, List.nil_append, List.getD_cons_zero, List.getD_cons_succ, D.int_i, show T45 59 = fn59 from rfl, wu64 (n := a) (by omega), wu64 (n := b) (by omega), e]
theorem fn46_eq (a b c d : Int) : fn46 [.i a, .i b, .i c, .i d] = [.b (decide (a < c) || ((a == c) && decide (b ≤ d)))] := by
  simp only [fn46, vt46, VT.val, X.ds, X.d, Op2.ev, List.getD_cons_zero, List.getD_cons_succ, D.int_i, D.bool_b, ite_b, ite_or, ite_and]
theorem fn60_eq {a b : Int} (ha : 0 ≤ a ∧ a ≤ 1152921504606846976) (hb : 0 ≤ b ∧ b ≤ 1152921504606846976) : fn60 [.i a, .i b] = [.i (a * b / 4611686018427387904), .i (a * b % 4611686018427387904)] := by
  have hx1 : 0 ≤ a / 2147483648 ∧ a / 2147483648 ≤ 536870912 := by omega
  have hy1 : 0 ≤ b / 2147483648 ∧ b / 2147483648 ≤ 536870912 := by omega
  have hx0 : 0 ≤ a % 2147483648 ∧ a % 2147483648 ≤ 2147483647 := by omega
  have hy0 : 0 ≤ b % 2147483648 ∧ b % 2147483648 ≤ 2147483647 := by omega
  have p11 := mul_bd0 hx1 hy1
  have p10 := mul_bd0 hx1 hy0
  have p01 := mul_bd0 hx0 hy1
  have p00 := mul_bd0 hx0 hy0
  have hm : 0 ≤ a / 2147483648 * (b % 2147483648) + a % 2147483648 * (b / 2147483648) := by omega
  have k1 := m62a _ _ _ p11.1 hm p00.1
  have k2 := m62b (a / 2147483648 * (b / 2147483648)) _ _ p11.1 hm p00.1
  rw [← parts31] at k1 k2
  rw [← k1, ← k2]
  simp only [fn60, vt60, VT.val, X.ds, X.d, Op2.ev, List.getD_cons_zero, List.getD_cons_succ, D.int_i, Int.tdiv_eq_ediv_of_nonneg ha.1, Int.tdiv_eq_ediv_of_nonneg hb.1, Int.tmod_eq_emod_of_nonneg ha.1, Int.tmod_eq_emod_of_nonneg hb.1]
  have w1 := w64 (n := a / 2147483648) (by omega)
  have w2 := w64 (n := b / 2147483648) (by omega)
  have w3 := w64 (n := a / 2147483648 * (b / 2147483648)) (by omega)
  have w4 := w64 (n := a / 2147483648 * (b % 2147483648)) (by omega)
  have w5 := w64 (n := a % 2147483648 * (b / 2147483648)) (by omega)
  have w6 := w64 (n := a / 2147483648 * (b % 2147483648) + a % 2147483648 * (b / 2147483648)) (by omega)
  have w7 := w64 (n := a % 2147483648 * (b % 2147483648)) (by omega)
  simp only [w1, w2, w3, w4, w5, w6, w7]
  have hm2 : a / 2147483648 * (b % 2147483648) + a % 2147483648 * (b / 2147483648) ≤ 4611686018427387904 := by omega
  clear k1 k2
  generalize a / 2147483648 * (b % 2147483648) + a % 2147483648 * (b / 2147483648) = m at *
  generalize a % 2147483648 * (b % 2147483648) = s at *
  generalize a / 2147483648 * (b / 2147483648) = p at *
  simp only [Int.tdiv_eq_ediv_of_nonneg hm, Int.tmod_eq_emod_of_nonneg hm]
  have w8 := w64 (n := m / 2147483648) (by omega)
  have w9 := w64 (n := m % 2147483648 * 2147483648) (by omega)
  have w10 := w64 (n := m % 2147483648 * 2147483648 + s) (by omega)
  have w11 := w64 (n := p + m / 2147483648) (by omega)
  have h0 : 0 ≤ m % 2147483648 * 2147483648 + s := by omega
  simp only [w8, w9, w10, w11, Int.tdiv_eq_ediv_of_nonneg h0, Int.tmod_eq_emod_of_nonneg h0]
  have w12 := w64 (n := (m % 2147483648 * 2147483648 + s) / 4611686018427387904) (by omega)
  rw [w12, w64 (by omega)]
theorem fn50_eq {a b c d : Int} (ha : 0 ≤ a ∧ a ≤ 1152921504606846976) (hb : 0 ≤ b ∧ b ≤ 1152921504606846976) (hc : 0 ≤ c ∧ c ≤ 1152921504606846976) (hd : 0 ≤ d ∧ d ≤ 1152921504606846976) : fn50 [.i a, .i b, .i c, .i d] = [.b (decide (a * b ≤ c * d))] := by
  simp only [fn50, vt50, VT.val, X.outs, X.ds, X.d, Op2.ev, takeD_zero, takeD_cons, List.cons_append, List.nil_append, List.getD_cons_zero, List.getD_cons_succ, D.int_i, D.bool_b, ite_b, ite_or, ite_and, show T50 60 = fn60 from rfl, fn60_eq ha hb, fn60_eq hc hd]
  rw [le_parts (by omega)]
end Go.Proofs.Ytpnfcopgmeggoaa.rv
