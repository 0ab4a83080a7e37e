/-
  How far a point is from a segment: the program's way and the reference's.
-/
import Derived.Test.YtpnfcopgmeggoaaRvWd1
namespace Go.Proofs.Ytpnfcopgmeggoaa.rv
open Go.RV
theorem sqb {x y : Int} (hx : -536870912 ≤ x ∧ x ≤ 536870912) (hy : -536870912 ≤ y ∧ y ≤ 536870912) : -288230376151711744 ≤ x * y ∧ x * y ≤ 288230376151711744 := mul_bd hx hy
theorem sq0 (x : Int) : 0 ≤ x * x := by
  rcases Int.le_total 0 x with h | h
  · exact Int.mul_nonneg h h
  · have := Int.mul_nonneg (a := -x) (b := -x) (by omega) (by omega)
    rw [Int.neg_mul_neg] at this; exact this
theorem tt_bd {t : Int} (h : 0 ≤ t ∧ t ≤ 1048576) : 0 ≤ t * t ∧ t * t ≤ 1099511627776 := mul_bd0 h h
/-- all points within the bounds, and a tolerance -/
def segOk (ax ay bx bY px py t : Int) : Prop := ptB ax ay = true ∧ ptB bx bY = true ∧ ptB px py = true ∧ tlB t = true
theorem fn25_eq {a b c d t : Int} (h1 : ptB a b = true) (h2 : ptB c d = true) (h3 : tlB t = true) : fn25 [.i a, .i b, .i c, .i d, .i t] = [.b (ner a b c d t)] := by
  rw [ptB_iff] at h1 h2
  rw [tlB_iff] at h3
  have s1 := sqb (x := a - c) (y := a - c) (by omega) (by omega)
  have s2 := sqb (x := b - d) (y := b - d) (by omega) (by omega)
  have s3 := tt_bd h3
  simp (disch := omega) only [fn25, vt25, VT.val, X.ds, X.d, Op2.ev, List.getD_cons_zero, List.getD_cons_succ, D.int_i, w64', ner, sq]
  rfl
theorem fn25_raw (a b c d t : D) : fn25 [a, b, c, d, t] = fn25 [.i a.int, .i b.int, .i c.int, .i d.int, .i t.int] := rfl
theorem nearby_ok {a b c d t : D} (h1 : ptB a.int b.int = true) (h2 : ptB c.int d.int = true) (h3 : tlB t.int = true) : fn25 [a, b, c, d, t] = [.b (ner a.int b.int c.int d.int t.int)] := by
  rw [fn25_raw]; exact fn25_eq h1 h2 h3
theorem fn44_eq {n : Int} (h : -2305843009213693952 ≤ n ∧ n ≤ 2305843009213693952) : fn44 [.i n] = [.i (max n (-n))] := by
  simp (disch := omega) only [fn44, vt44, VT.val, X.ds, X.d, Op1.ev, Op2.ev, List.getD_cons_zero, D.int_i, imax, w64', Int.zero_sub]
theorem abs_sq (n : Int) : max n (-n) * max n (-n) = n * n := by
  rcases Int.le_total 0 n with h | h
  · rw [show max n (-n) = n by omega]
  · rw [show max n (-n) = -n by omega, Int.neg_mul_neg]
theorem beside_ok {A B C E F G T : D} (h : segOk A.int B.int C.int E.int F.int G.int T.int) : fn26 [A, B, C, E, F, G, T] = [.b (besB A.int B.int C.int E.int F.int G.int T.int)] := by
  obtain ⟨h1, h2, h3, h4⟩ := h
  have n1 := nearby_ok h1 h3 h4
  have n2 := nearby_ok h2 h3 h4
  generalize hA : A.int = ax at *
  generalize hB : B.int = ay at *
  generalize hC : C.int = bx at *
  generalize hE : E.int = bY at *
  generalize hF : F.int = px at *
  generalize hG : G.int = py at *
  generalize hT : T.int = t at *
  rw [ptB_iff] at h1 h2 h3
  rw [tlB_iff] at h4
  have a1 := sqb (x := px - ax) (y := bx - ax) (by omega) (by omega)
  have a2 := sqb (x := py - ay) (y := bY - ay) (by omega) (by omega)
  have a3 := sqb (x := bx - ax) (y := bx - ax) (by omega) (by omega)
  have a4 := sqb (x := bY - ay) (y := bY - ay) (by omega) (by omega)
  have a5 := sqb (x := px - ax) (y := bY - ay) (by omega) (by omega)
  have a6 := sqb (x := py - ay) (y := bx - ax) (by omega) (by omega)
  have a3' := sq0 (bx - ax)
  have a4' := sq0 (bY - ay)
  have s3 := tt_bd h4
  have w1 := w64 (n := px - ax) (by omega)
  have w2 := w64 (n := py - ay) (by omega)
  have w3 := w64 (n := bx - ax) (by omega)
  have w4 := w64 (n := bY - ay) (by omega)
  have w5 := w64 (n := (px - ax) * (bx - ax)) (by omega)
  have w6 := w64 (n := (py - ay) * (bY - ay)) (by omega)
  have w7 := w64 (n := (bx - ax) * (bx - ax)) (by omega)
  have w8 := w64 (n := (bY - ay) * (bY - ay)) (by omega)
  have w9 := w64 (n := (px - ax) * (bY - ay)) (by omega)
  have w10 := w64 (n := (py - ay) * (bx - ax)) (by omega)
  have w11 := w64 (n := (px - ax) * (bx - ax) + (py - ay) * (bY - ay)) (by omega)
  have w12 := w64 (n := (bx - ax) * (bx - ax) + (bY - ay) * (bY - ay)) (by omega)
  have w13 := w64 (n := (px - ax) * (bY - ay) - (py - ay) * (bx - ax)) (by omega)
  have w14 := w64 (n := t * t) (by omega)
  have hab := fn44_eq (n := (px - ax) * (bY - ay) - (py - ay) * (bx - ax)) (by omega)
  have ht1 := fn45_eq (a := max ((px - ax) * (bY - ay) - (py - ay) * (bx - ax)) (-((px - ax) * (bY - ay) - (py - ay) * (bx - ax)))) (b := max ((px - ax) * (bY - ay) - (py - ay) * (bx - ax)) (-((px - ax) * (bY - ay) - (py - ay) * (bx - ax)))) (by omega) (by omega)
  have ht2 := fn45_eq (a := t * t) (b := (bx - ax) * (bx - ax) + (bY - ay) * (bY - ay)) (by omega) (by omega)
  simp only [fn26, vt26, VT.val, X.outs, X.ds, X.d, Op2.ev, takeD_zero, takeD_cons, List.cons_append, List.nil_append, List.getD_cons_zero, List.getD_cons_succ, D.int_i, D.bool_b, ite_b, ite_or, ite_and, hA, hB, hC, hE, hF, hG, hT, show T26 25 = fn25 from rfl, show T26 44 = fn44 from rfl, show T26 45 = fn45 from rfl, show T26 46 = fn46 from rfl, n1, n2, w1, w2, w3, w4, w5, w6, w7, w8, w9, w10, w11, w12, w13, w14, hab, ht1, ht2, fn46_eq, le_parts (M := 18446744073709551616) (by omega), abs_sq]
  have e : ∀ (p q r : Bool), (if p = true then [D.b true] else if q = true then [D.b false] else [D.b r]) = [D.b (p || (!q && r))] := by intro p q r; cases p <;> cases q <;> rfl
  rw [e]
  rfl
theorem fn47_eq {ax ay bx bY px py : Int} (h1 : ptB ax ay = true) (h2 : ptB bx bY = true) (h3 : ptB px py = true) : fn47 [.i ax, .i ay, .i bx, .i bY, .i px, .i py] = [.i (alng ax ay bx bY px py)] := by
  rw [ptB_iff] at h1 h2 h3
  have a1 := sqb (x := bx - ax) (y := px - ax) (by omega) (by omega)
  have a2 := sqb (x := bY - ay) (y := py - ay) (by omega) (by omega)
  simp (disch := omega) only [fn47, vt47, VT.val, X.ds, X.d, Op2.ev, List.getD_cons_zero, List.getD_cons_succ, D.int_i, w64', alng, Int.mul_comm (px - ax), Int.mul_comm (py - ay)]
theorem fn48_eq {a b c d : Int} (h1 : ptB a b = true) (h2 : ptB c d = true) : fn48 [.i a, .i b, .i c, .i d] = [.i (sq (a - c) (b - d))] := by
  rw [ptB_iff] at h1 h2
  have s1 := sqb (x := a - c) (y := a - c) (by omega) (by omega)
  have s2 := sqb (x := b - d) (y := b - d) (by omega) (by omega)
  simp (disch := omega) only [fn48, vt48, VT.val, X.ds, X.d, Op2.ev, List.getD_cons_zero, List.getD_cons_succ, D.int_i, w64', sq]
theorem fn49_eq {ax ay bx bY px py : Int} (h1 : ptB ax ay = true) (h2 : ptB bx bY = true) (h3 : ptB px py = true) : ∃ c : Int, fn49 [.i ax, .i ay, .i bx, .i bY, .i px, .i py] = [.i c] ∧ 0 ≤ c ∧ c ≤ 576460752303423488 ∧ c * c = crs ax ay bx bY px py * crs ax ay bx bY px py := by
  rw [ptB_iff] at h1 h2 h3
  have a1 := sqb (x := bx - ax) (y := py - ay) (by omega) (by omega)
  have a2 := sqb (x := bY - ay) (y := px - ax) (by omega) (by omega)
  have e : crs ax ay bx bY px py = -((bx - ax) * (py - ay) - (bY - ay) * (px - ax)) := by
    unfold crs
    rw [Int.mul_comm (px - ax), Int.mul_comm (py - ay)]
    omega
  have w1 := w64 (n := px - ax) (by omega)
  have w2 := w64 (n := py - ay) (by omega)
  have w3 := w64 (n := bx - ax) (by omega)
  have w4 := w64 (n := bY - ay) (by omega)
  have w5 := w64 (n := (bx - ax) * (py - ay)) (by omega)
  have w6 := w64 (n := (bY - ay) * (px - ax)) (by omega)
  have w7 := w64 (n := (bx - ax) * (py - ay) - (bY - ay) * (px - ax)) (by omega)
  have w8 := w64 (n := 0 - ((bx - ax) * (py - ay) - (bY - ay) * (px - ax))) (by omega)
  simp only [fn49, vt49, VT.val, X.ds, X.d, Op1.ev, Op2.ev, List.getD_cons_zero, List.getD_cons_succ, D.int_i, D.bool_b, w1, w2, w3, w4, w5, w6, w7, w8]
  rw [e, Int.neg_mul_neg]
  have hb : -576460752303423488 ≤ (bx - ax) * (py - ay) - (bY - ay) * (px - ax) ∧ (bx - ax) * (py - ay) - (bY - ay) * (px - ax) ≤ 576460752303423488 := by omega
  generalize (bx - ax) * (py - ay) - (bY - ay) * (px - ax) = n at *
  by_cases hn : n < 0
  · rw [decide_eq_true hn, if_pos rfl]
    exact ⟨0 - n, rfl, by omega, by omega, by rw [Int.zero_sub, Int.neg_mul_neg]⟩
  · rw [decide_eq_false hn, if_neg (by decide)]
    exact ⟨n, rfl, by omega, by omega, rfl⟩
theorem fn47_raw (a b c d e f : D) : fn47 [a, b, c, d, e, f] = fn47 [.i a.int, .i b.int, .i c.int, .i d.int, .i e.int, .i f.int] := rfl
theorem fn48_raw (a b c d : D) : fn48 [a, b, c, d] = fn48 [.i a.int, .i b.int, .i c.int, .i d.int] := rfl
theorem fn49_raw (a b c d e f : D) : fn49 [a, b, c, d, e, f] = fn49 [.i a.int, .i b.int, .i c.int, .i d.int, .i e.int, .i f.int] := rfl
theorem segment_ok {A B C E F G T : D} (h : segOk A.int B.int C.int E.int F.int G.int T.int) : fn29 [A, B, C, E, F, G, T] = [.b (segB A.int B.int C.int E.int F.int G.int T.int)] := by
  obtain ⟨h1, h2, h3, h4⟩ := h
  have d1 := fn47_eq h1 h2 h3
  have d2 := fn47_eq h2 h1 h3
  have q1 := fn48_eq h1 h3
  have q2 := fn48_eq h2 h3
  have q3 := fn48_eq h1 h2
  have cc := fn49_eq h1 h2 h3
  rw [← fn47_raw] at d1 d2
  rw [← fn48_raw] at q1 q2 q3
  rw [← fn49_raw] at cc
  generalize hA : A.int = ax at *
  generalize hB : B.int = ay at *
  generalize hC : C.int = bx at *
  generalize hE : E.int = bY at *
  generalize hF : F.int = px at *
  generalize hG : G.int = py at *
  generalize hT : T.int = t at *
  obtain ⟨c, c1, c2, c3, c4⟩ := cc
  have e3 : sq (ax - bx) (ay - bY) = sq (bx - ax) (bY - ay) := by unfold sq; grind
  rw [e3] at q3
  rw [ptB_iff] at h1 h2 h3
  rw [tlB_iff] at h4
  have s3 := tt_bd h4
  have a3 := sqb (x := bx - ax) (y := bx - ax) (by omega) (by omega)
  have a4 := sqb (x := bY - ay) (y := bY - ay) (by omega) (by omega)
  have a3' := sq0 (bx - ax)
  have a4' := sq0 (bY - ay)
  have hm := fn50_eq (a := c) (b := c) (c := t * t) (d := sq (bx - ax) (bY - ay)) (by omega) (by omega) (by omega) (by unfold sq; omega)
  have w14 := w64 (n := t * t) (by omega)
  simp only [fn29, vt29, VT.val, X.outs, X.ds, X.d, Op2.ev, takeD_zero, takeD_cons, List.cons_append, List.nil_append, List.getD_cons_zero, List.getD_cons_succ, D.int_i, D.bool_b, hT, show T29 47 = fn47 from rfl, show T29 48 = fn48 from rfl, show T29 49 = fn49 from rfl, show T29 50 = fn50 from rfl, d1, d2, q1, q2, q3, c1, hm, w14, c4]
  unfold segB
  by_cases k1 : alng ax ay bx bY px py ≤ 0
  · rw [decide_eq_true k1, if_pos rfl, if_pos k1]; rfl
  · rw [decide_eq_false k1, if_neg (by decide), if_neg k1]
    by_cases k2 : alng bx bY ax ay px py ≤ 0
    · rw [decide_eq_true k2, if_pos rfl, if_pos k2]; rfl
    · rw [decide_eq_false k2, if_neg (by decide), if_neg k2]
end Go.Proofs.Ytpnfcopgmeggoaa.rv
