/-
  The box package and its reference as functions of data: Contains, Inside, Overlap.
-/
import Derived.Test.YteajmcpjcbjolaaRvBox
namespace Go.Proofs.Yteajmcpjcbjolaa.rv
open Go.RV

theorem ite_and (c x : Bool) : (if c = true then D.b x else D.b false) = D.b (c && x) := by cases c <;> rfl
theorem ite_or (c x : Bool) : (if c = true then D.b true else D.b x) = D.b (c || x) := by cases c <;> rfl
theorem imax (x y : Int) : (if y > x then y else x) = max x y := by omega
theorem imin (x y : Int) : (if y < x then y else x) = min x y := by omega

def cont (a b c d x y : Int) : Bool := bv a b c d && pv x y && decide (a ≤ x) && decide (x ≤ c) && decide (b ≤ y) && decide (y ≤ d)
def ins (a b c d e f g h : Int) : Bool := bv a b c d && bv e f g h && decide (e ≤ a) && decide (c ≤ g) && decide (f ≤ b) && decide (d ≤ h)
def over (a b c d e f g h : Int) : Bool := bv a b c d && bv e f g h && decide (max a e < min c g) && decide (max b f < min d h)

theorem fn22_eq (a b c d x y : Int) : fn22 [.i a, .i b, .i c, .i d, .i x, .i y] = [.b (cont a b c d x y)] := by
  simp only [fn22, vt22, VT.val, X.ds, X.d, Op2.ev, List.getD_cons_zero, List.getD_cons_succ, D.int_i, D.bool_b, show T22 9 = fn9 from rfl, show T22 31 = fn31 from rfl, fn9_eq, fn31_eq, ite_and, cont]
theorem fn23_eq (a b c d x y : Int) : fn23 [.i a, .i b, .i c, .i d, .i x, .i y] = [.b (cont a b c d x y)] := by
  simp only [fn23, vt23, VT.val, X.ds, X.d, Op2.ev, List.getD_cons_zero, List.getD_cons_succ, D.int_i, D.bool_b, show T23 10 = fn10 from rfl, show T23 21 = fn21 from rfl, fn10_eq, fn21_eq, ite_and, cont]
theorem fn24_eq (a b c d e f g h : Int) : fn24 [.i a, .i b, .i c, .i d, .i e, .i f, .i g, .i h] = [.b (ins a b c d e f g h)] := by
  simp only [fn24, vt24, VT.val, X.ds, X.d, Op2.ev, List.getD_cons_zero, List.getD_cons_succ, D.int_i, D.bool_b, show T24 9 = fn9 from rfl, fn9_eq, ite_and, ins]
theorem ins_cont (a b c d e f g h : Int) : (bv a b c d && cont e f g h a b && cont e f g h c d) = ins a b c d e f g h := by
  rw [Bool.eq_iff_iff]
  simp only [ins, cont, bv, pv, Bool.and_eq_true, decide_eq_true_eq]
  omega
theorem fn25_eq (a b c d e f g h : Int) : fn25 [.i a, .i b, .i c, .i d, .i e, .i f, .i g, .i h] = [.b (ins a b c d e f g h)] := by
  simp only [fn25, vt25, VT.val, X.ds, X.d, List.getD_cons_zero, List.getD_cons_succ, D.bool_b, show T25 10 = fn10 from rfl, show T25 23 = fn23 from rfl, fn10_eq, fn23_eq, ite_and, ins_cont]
theorem fn18_eq (a b c d e f g h : Int) : fn18 [.i a, .i b, .i c, .i d, .i e, .i f, .i g, .i h] = [.b (over a b c d e f g h)] := by
  simp only [fn18, vt18, VT.val, X.ds, X.d, Op2.ev, List.getD_cons_zero, List.getD_cons_succ, D.int_i, D.bool_b, show T18 9 = fn9 from rfl, fn9_eq, ite_and, imax, imin, over]
theorem fn26_eq (a b c d e f g h : Int) : fn26 [.i a, .i b, .i c, .i d, .i e, .i f, .i g, .i h] = [.b (over a b c d e f g h)] := by
  simp only [fn26, vt26, VT.val, X.ds, X.d, Op2.ev, List.getD_cons_zero, List.getD_cons_succ, D.int_i, D.bool_b, show T26 10 = fn10 from rfl, fn10_eq, ite_and, imax, imin, over]
theorem over_comm (a b c d e f g h : Int) : over e f g h a b c d = over a b c d e f g h := by
  rw [Bool.eq_iff_iff]
  simp only [over, bv, pv, Bool.and_eq_true, decide_eq_true_eq]
  omega

theorem fn7_eq (a b c d e f g h x y : Int) : fn7 [.i a, .i b, .i c, .i d, .i e, .i f, .i g, .i h, .i x, .i y] = [.b true] := by
  simp only [fn7, vt7, VT.val, X.ds, X.d, Op2.ev, List.getD_cons_zero, List.getD_cons_succ, D.bool_b, show T7 22 = fn22 from rfl, show T7 23 = fn23 from rfl, show T7 24 = fn24 from rfl, show T7 25 = fn25 from rfl, show T7 18 = fn18 from rfl, show T7 26 = fn26 from rfl, show T7 15 = fn15 from rfl,
    fn22_eq, fn23_eq, fn24_eq, fn25_eq, fn18_eq, fn26_eq, over_comm a b c d e f g h, beq_self_eq_true, if_true, fn15_eq]

theorem law7 : Meets Try.prog 7 S7 (fun _ => True) (fun _ => [.b true]) := m7.to fun ds hf _ => by
  refine ⟨trivial, ?_⟩
  match ds, hf.flat with
  | [d0, d1, d2, d3, d4, d5, d6, d7, d8, d9], ⟨h0, h1, h2, h3, h4, h5, h6, h7, h8, h9, _⟩ =>
    obtain ⟨x0, rfl, _⟩ := wf_i64 h0
    obtain ⟨x1, rfl, _⟩ := wf_i64 h1
    obtain ⟨x2, rfl, _⟩ := wf_i64 h2
    obtain ⟨x3, rfl, _⟩ := wf_i64 h3
    obtain ⟨x4, rfl, _⟩ := wf_i64 h4
    obtain ⟨x5, rfl, _⟩ := wf_i64 h5
    obtain ⟨x6, rfl, _⟩ := wf_i64 h6
    obtain ⟨x7, rfl, _⟩ := wf_i64 h7
    obtain ⟨x8, rfl, _⟩ := wf_i64 h8
    obtain ⟨x9, rfl, _⟩ := wf_i64 h9
    exact fn7_eq ..
end Go.Proofs.Yteajmcpjcbjolaa.rv
