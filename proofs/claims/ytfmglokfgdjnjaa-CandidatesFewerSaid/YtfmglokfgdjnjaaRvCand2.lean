/-
  Candidates: the tables; small functions.
-/
import Derived.Test.YtfmglokfgdjnjaaRvCand1
namespace Go.Proofs.Ytfmglokfgdjnjaa.rv
open Go.RV

theorem fn38_eq {b : Bx} (hv : vq b = true) : fn38 [.i b.1, .i b.2.1, .i b.2.2.1, .i b.2.2.2] = [.i ((b.1 + b.2.2.1) / 2), .i ((b.2.1 + b.2.2.2) / 2)] := by
  have hb := vq_iff.1 hv
  have hv' : bv b.1 b.2.1 b.2.2.1 b.2.2.2 = true := hv
  simp (disch := omega) only [fn38, vt38, VT.val, X.outs, X.ds, X.d, Op1.ev, Op2.ev, takeD_zero, takeD_cons, List.cons_append, List.nil_append, List.getD_cons_zero, List.getD_cons_succ, D.int_i, D.bool_b, Bool.false_eq_true, show T38 21 = fn21 from rfl, fn21_eq, hv', Bool.not_true, shr1, ↓reduceIte, w64']
theorem fn24_eq {b : Bx} {w h g k : Int} (hv : vq b = true) (hs : sz3 w h g = true) (hk : 0 ≤ k ∧ k ≤ 7) : fn24 [.i b.1, .i b.2.1, .i b.2.2.1, .i b.2.2.2, .i w, .i h, .i g, .i k] = encQ (place b w h g k) := by
  have hb := vq_iff.1 hv
  have hz := sz3_iff.1 hs
  have hc : k = 0 ∨ k = 1 ∨ k = 2 ∨ k = 3 ∨ k = 4 ∨ k = 5 ∨ k = 6 ∨ k = 7 := by omega
  rcases hc with rfl | rfl | rfl | rfl | rfl | rfl | rfl | rfl <;>
  simp (disch := omega) only [fn24, vt24, VT.val, X.outs, X.ds, X.d, Op2.ev, takeD_zero, takeD_cons, List.cons_append, List.nil_append, List.getD_cons_zero, List.getD_cons_succ, D.int_i, D.bool_b, Bool.false_eq_true, show T24 38 = fn38 from rfl, fn38_eq hv, tdivp, ↓reduceIte, ↓reduceIte, beq_t, beq_f, w64'] <;> rfl
theorem fn39_eq {n : Int} (h : -1073741824 ≤ n ∧ n ≤ 1073741824) : fn39 [.i n] = [.i (n / 2)] := by
  by_cases hn : n < 0
  · simp (disch := omega) only [fn39, vt39, VT.val, X.ds, X.d, Op1.ev, Op2.ev, List.getD_cons_zero, D.int_i, D.bool_b, tdivp, ↓reduceIte, ↓reduceIte, dlt_t, w64']
    congr 2; omega
  · simp (disch := omega) only [fn39, vt39, VT.val, X.ds, X.d, Op2.ev, List.getD_cons_zero, D.int_i, D.bool_b, Bool.false_eq_true, tdivp, ↓reduceIte, ↓reduceIte, dlt_f, w64']
theorem fn26_eq {b : Bx} {w h g k : Int} (hv : vq b = true) (hs : sz3 w h g = true) (hk : 0 ≤ k ∧ k ≤ 7) : fn26 [.i b.1, .i b.2.1, .i b.2.2.1, .i b.2.2.2, .i w, .i h, .i g, .i k] = encQ (place b w h g k) := by
  have hb := vq_iff.1 hv
  have hz := sz3_iff.1 hs
  have h1 : fn39 [.i (b.1 + b.2.2.1)] = [.i ((b.1 + b.2.2.1) / 2)] := fn39_eq (by omega)
  have h2 : fn39 [.i (b.2.1 + b.2.2.2)] = [.i ((b.2.1 + b.2.2.2) / 2)] := fn39_eq (by omega)
  have hc : k = 0 ∨ k = 1 ∨ k = 2 ∨ k = 3 ∨ k = 4 ∨ k = 5 ∨ k = 6 ∨ k = 7 := by omega
  rcases hc with rfl | rfl | rfl | rfl | rfl | rfl | rfl | rfl <;>
  simp (disch := omega) only [fn26, vt26, VT.val, X.outs, X.ds, X.d, Op2.ev, takeD_zero, takeD_cons, List.cons_append, List.nil_append, List.getD_cons_zero, List.getD_cons_succ, D.int_i, D.bool_b, Bool.false_eq_true, show T26 39 = fn39 from rfl, h1, h2, tdivp, ↓reduceIte, ↓reduceIte, dle_t, dle_f, beq_t, beq_f, w64'] <;> rfl
theorem fn37_eq (n : Int) : fn37 [.i n] = [.b (badS n)] := by
  simp only [fn37, vt37, VT.val, X.ds, X.d, Op2.ev, List.getD_cons_zero, D.int_i, D.bool_b, ite_b, ite_or, badS]
theorem fn25_eq (w h g : Int) : fn25 [.i w, .i h, .i g] = [.b (sz3 w h g)] := by
  simp only [fn25, vt25, VT.val, X.ds, X.d, Op2.ev, List.getD_cons_zero, List.getD_cons_succ, D.int_i, D.bool_b, ite_b, ite_and, sz3]
theorem fn18_eq (a b c d : Int) : fn18 [.i a, .i b, .i c, .i d] = [.b (bv a b c d)] := by
  simp only [fn18, vt18, VT.val, X.ds, X.d, Op2.ev, List.getD_cons_zero, List.getD_cons_succ, D.int_i, D.bool_b, ite_b, ite_and]
  congr 2
  rw [Bool.eq_iff_iff, bv_iff]
  simp only [Bool.and_eq_true, decide_eq_true_eq]
  omega
theorem fn34_eq (x y : Int) : fn34 [.i x, .i y] = [.b (pv x y)] := by
  simp only [fn34, vt34, VT.val, X.ds, X.d, Op2.ev, List.getD_cons_zero, List.getD_cons_succ, D.int_i, D.bool_b, ite_b, ite_and, pv, Bool.and_assoc]
theorem fn45_eq (x y : Int) : fn45 [.i x, .i y] = [.b (!pv x y)] := by
  simp only [fn45, vt45, VT.val, X.outs, X.ds, X.d, Op1.ev, takeD_zero, takeD_cons, List.cons_append, List.nil_append, List.getD_cons_zero, List.getD_cons_succ, D.bool_b, show T45 35 = fn35 from rfl, fn35_eq, Op1.ev]
theorem fn33_eq (a b : Bx) : fn33 [.i a.1, .i a.2.1, .i a.2.2.1, .i a.2.2.2, .i b.1, .i b.2.1, .i b.2.2.1, .i b.2.2.2] = [.b (ovl a b)] := by
  simp only [fn33, vt33, VT.val, X.outs, X.ds, X.d, Op2.ev, takeD_zero, takeD_cons, List.cons_append, List.nil_append, List.getD_cons_zero, List.getD_cons_succ, D.int_i, D.bool_b, ite_b, ite_and, imin, imax, show T33 18 = fn18 from rfl, fn18_eq, ovl, vq]
theorem fn31_eq (a b : Bx) : fn31 [.i b.1, .i b.2.1, .i b.2.2.1, .i b.2.2.2, .p (encQ a)] = [.b (ovl a b)] := by
  simp only [fn31, vt31, VT.val, X.outs, X.ds, X.d, takeD_zero, takeD_cons, List.cons_append, List.nil_append, List.getD_cons_zero, List.getD_cons_succ, D.ptd_p, encQ, show T31 32 = fn32 from rfl, fn32_eq]
end Go.Proofs.Ytfmglokfgdjnjaa.rv
