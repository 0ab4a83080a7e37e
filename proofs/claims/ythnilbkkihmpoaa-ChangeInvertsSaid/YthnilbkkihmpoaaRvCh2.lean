/-
  Changes of graphs: edits that fit; copies; edges behind a node that goes.
-/
import Derived.Test.YthnilbkkihmpoaaRvGrC
import Derived.Test.YthnilbkkihmpoaaRvCh1
namespace Go.Proofs.Ythnilbkkihmpoaa.rv
open Go.RV

theorem fitsX {e : TypeId} {c rest : List CT} {ds : List D} (h : FitsF (.int .i64 :: .int .i64 :: .str :: .str :: .int .i64 :: .int .i64 :: .int .i64 :: .sl e c :: .int .i64 :: .int .i64 :: .int .i64 :: .int .i64 :: .str :: .int .i64 :: .int .i64 :: rest) ds) :
    ∃ (x ds' : List D), ds = x ++ ds' ∧ editRow x ∧ (-9223372036854775808 ≤ cI x 1 ∧ cI x 1 ≤ 9223372036854775807) ∧ FitsF rest ds' := by
  match ds, h with
  | d0 :: d1 :: d2 :: d3 :: d4 :: d5 :: d6 :: d7 :: d8 :: d9 :: d10 :: d11 :: d12 :: d13 :: d14 :: ds', ⟨h0, h1, h2, h3, h4, h5, h6, h7, h8, h9, h10, h11, h12, h13, h14, h15⟩ =>
    obtain ⟨k, rfl, _⟩ := wf_i64 h0
    obtain ⟨a, rfl, b1⟩ := wf_i64 h1
    obtain ⟨s, rfl, _⟩ := wf_str h2
    obtain ⟨t, rfl, _⟩ := wf_str h3
    obtain ⟨w, rfl, _⟩ := wf_i64 h4
    obtain ⟨h, rfl, _⟩ := wf_i64 h5
    obtain ⟨c, rfl, _⟩ := wf_i64 h6
    obtain ⟨ps, rfl, _⟩ := wf_sl h7
    obtain ⟨p, rfl, _⟩ := wf_i64 h8
    obtain ⟨q, rfl, _⟩ := wf_i64 h9
    obtain ⟨r, rfl, _⟩ := wf_i64 h10
    obtain ⟨u, rfl, _⟩ := wf_i64 h11
    obtain ⟨lb, rfl, _⟩ := wf_str h12
    obtain ⟨wt, rfl, _⟩ := wf_i64 h13
    obtain ⟨ln, rfl, _⟩ := wf_i64 h14
    exact ⟨_, ds', rfl, ⟨k, a, s, t, w, h, c, ps, p, q, r, u, lb, wt, ln, rfl⟩, b1, h15⟩
theorem fits_node {e : TypeId} {c : List CT} {x : List D} (h : FitsF [.str, .str, .int .i64, .int .i64, .int .i64, .sl e c] x) : nodeRow x := by
  obtain ⟨s, t, a, b, c, ps, ds', rfl, h5, _⟩ := fitsN h
  have e0 := fits0 h5
  subst e0
  exact ⟨s, t, a, b, c, ps, rfl⟩
theorem fits_edge {x : List D} (h : FitsF [.int .i64, .int .i64, .int .i64, .int .i64, .str, .int .i64, .int .i64] x) : edgeRow x := by
  match x, h with
  | [d0, d1, d2, d3, d4, d5, d6], ⟨h0, h1, h2, h3, h4, h5, h6, _⟩ =>
    obtain ⟨a, rfl, _⟩ := wf_i64 h0
    obtain ⟨b, rfl, _⟩ := wf_i64 h1
    obtain ⟨c, rfl, _⟩ := wf_i64 h2
    obtain ⟨d, rfl, _⟩ := wf_i64 h3
    obtain ⟨s, rfl, _⟩ := wf_str h4
    obtain ⟨e, rfl, _⟩ := wf_i64 h5
    obtain ⟨f, rfl, _⟩ := wf_i64 h6
    exact ⟨a, b, c, d, s, e, f, rfl⟩
theorem row6 {x : List D} (h : nodeRow x) : [gc x 0, gc x 1, gc x 2, gc x 3, gc x 4, gc x 5] = x := by
  obtain ⟨s, t, a, b, c, ps, rfl⟩ := h
  rfl
theorem row7 {x : List D} (h : edgeRow x) : [gc x 0, gc x 1, gc x 2, gc x 3, gc x 4, gc x 5, gc x 6] = x := by
  obtain ⟨a, b, c, d, s, e, f, rfl⟩ := h
  rfl
theorem el_mem {xs : List (List D)} {j : Nat} (h : j < xs.length) : el xs j ∈ xs := by
  simp [el, List.getD, h]
theorem take_succ' {xs : List (List D)} {j : Nat} (h : j < xs.length) : xs.take (j + 1) = xs.take j ++ [el xs j] := by
  rw [List.take_add_one, el, List.getD]
  simp [h]

/-! ### edits that fit -/
theorem pn_eq (a b c d e f s l : D) : fn41 [a, b, c, d, e, f, s, l] = [.b (pnB [a, b, c, d, e, f] s.bool l.bool)] := by
  show vt41.val T41 _ = _
  simp only [vt41, VT.val, X.ds, X.d, Op1.ev, Op2.ev, List.getD_cons_zero, List.getD_cons_succ, D.int_i, D.bool_b, D.str_s, ite_b, ite_or, ite_and, pnB]
  rfl
theorem fits_eq {x : List D} (h : editRow x) : fn22 x = [.b (fitsB x)] := by
  obtain ⟨k, a, s, t, w, h, c, ps, p, q, r, u, lb, wt, ln, rfl⟩ := h
  have e1 : T22 41 = fn41 := rfl
  show vt22.val T22 _ = _
  simp only [vt22, VT.val, X.outs, X.ds, X.d, Op2.ev, takeD_zero, takeD_cons, List.cons_append, List.nil_append, List.getD_cons_zero, List.getD_cons_succ, D.int_i, D.bool_b, D.str_s, ite_b, ite_and, e1, pn_eq]
  simp only [fitsB, noneB, ndOf, cI, cS, gc, List.getD_cons_zero, List.getD_cons_succ, D.int_i, D.str_s]
  generalize (k == 1) = k1
  generalize (k == 2) = k2
  generalize (k == 3) = k3
  generalize (k == 4) = k4
  generalize (k == 5) = k5
  generalize (k == 6) = k6
  cases k1 <;> cases k3 <;> cases k2 <;> cases k4 <;> cases k5 <;> cases k6 <;> rfl
theorem bareE_eq (a b c d e f g : D) : fn49 [a, b, c, d, e, f, g] = [.b ((a.int == 0) && ((b.int == 0) && ((c.int == 0) && ((d.int == 0) && ((e.str == e0) && ((f.int == 0) && (g.int == 0)))))))] := by
  show vt49.val T49 _ = _
  simp only [vt49, VT.val, X.ds, X.d, Op2.ev, List.getD_cons_zero, List.getD_cons_succ, D.int_i, D.bool_b, D.str_s, ite_b, ite_and]
theorem bareN_eq (a b c d e f : D) : fn50 [a, b, c, d, e, f] = [.b (bareB [a, b, c, d, e, f])] := by
  show vt50.val T50 _ = _
  simp only [vt50, VT.val, X.ds, X.d, Op1.ev, Op2.ev, List.getD_cons_zero, List.getD_cons_succ, D.int_i, D.bool_b, D.str_s, ite_b, ite_and, bareB]
  rfl
theorem bare_pn (a b c d e f : D) : bareB [a, b, c, d, e, f] = pnB [a, b, c, d, e, f] false false := by
  simp only [bareB, pnB, cI, cS, cL, List.getD_cons_zero, List.getD_cons_succ, Bool.false_or]
  generalize (a.str == e0) = p
  generalize (b.str == e0) = q
  generalize (c.int == 0) = r
  generalize (d.int == 0) = s
  generalize (e.int == 0) = t
  generalize ((f.lst.length : Int) == 0) = u
  cases p <;> cases q <;> cases r <;> cases s <;> cases t <;> cases u <;> rfl
theorem bare_sz (a b e f : D) (c d : D) : bareB [a, b, .i 0, .i 0, e, f] = pnB [a, b, c, d, e, f] true false := by
  simp only [bareB, pnB, cI, cS, cL, List.getD_cons_zero, List.getD_cons_succ, Bool.false_or, Bool.true_or, D.int_i]
  generalize (a.str == e0) = p
  generalize (b.str == e0) = q
  generalize (e.int == 0) = t
  generalize ((f.lst.length : Int) == 0) = u
  cases p <;> cases q <;> cases t <;> cases u <;> rfl
theorem bare_lb (a c d e f : D) (b : D) : bareB [a, .s e0, c, d, e, f] = pnB [a, b, c, d, e, f] false true := by
  simp only [bareB, pnB, cI, cS, cL, List.getD_cons_zero, List.getD_cons_succ, Bool.false_or, Bool.true_or, D.str_s]
  generalize (a.str == e0) = p
  generalize (c.int == 0) = r
  generalize (d.int == 0) = s
  generalize (e.int == 0) = t
  generalize ((f.lst.length : Int) == 0) = u
  cases p <;> cases r <;> cases s <;> cases t <;> cases u <;> rfl
theorem used_eq {x : List D} (h : editRow x) : fn29 x = [.b (fitsB x)] := by
  obtain ⟨k, a, s, t, w, h, c, ps, p, q, r, u, lb, wt, ln, rfl⟩ := h
  have e1 : T29 50 = fn50 := rfl
  have e2 : T29 49 = fn49 := rfl
  show vt29.val T29 _ = _
  simp only [vt29, VT.val, X.outs, X.ds, X.d, Op2.ev, takeD_zero, takeD_cons, List.cons_append, List.nil_append, List.getD_cons_zero, List.getD_cons_succ, D.int_i, D.bool_b, D.str_s, ite_b, ite_and, e1, e2, bareE_eq, bareN_eq]
  have z1 : bareB [D.s s, .s t, .i 0, .i 0, .i c, .l ps] = pnB [D.s s, .s t, .i w, .i h, .i c, .l ps] true false := bare_sz _ _ _ _ _ _
  have z2 : bareB [D.s s, .s ⟨#[]⟩, .i w, .i h, .i c, .l ps] = pnB [D.s s, .s t, .i w, .i h, .i c, .l ps] false true := bare_lb _ _ _ _ _ _
  simp only [z1, z2, bare_pn]
  simp only [fitsB, noneB, ndOf, cI, cS, gc, List.getD_cons_zero, List.getD_cons_succ, D.int_i, D.str_s]
  generalize (k == 1) = k1
  generalize (k == 2) = k2
  generalize (k == 3) = k3
  generalize (k == 4) = k4
  generalize (k == 5) = k5
  generalize (k == 6) = k6
  cases k1 <;> cases k3 <;> cases k2 <;> cases k4 <;> cases k5 <;> cases k6 <;> rfl
theorem ins_eq (g : Gd) {x : List D} (h : editRow x) : fn30 (.s g.nm :: .b g.dr :: .l g.N :: .l g.E :: .l g.C :: x) = [.b (insB g x)] := by
  obtain ⟨k, a, s, t, w, h, c, ps, p, q, r, u, lb, wt, ln, rfl⟩ := h
  show vt30.val T30 _ = _
  simp only [vt30, VT.val, X.ds, X.d, Op1.ev, Op2.ev, List.getD_cons_zero, List.getD_cons_succ, D.int_i, D.bool_b, D.lst_l, ite_b, ite_and]
  simp only [insB, cI, List.getD_cons_zero, List.getD_cons_succ, D.int_i]
  generalize (k == 1) = k1
  generalize (k == 3) = k3
  generalize (k == 4) = k4
  cases k1 <;> cases k3 <;> cases k4 <;> rfl
theorem touch_eq (a b c d e f g k : D) : fn33 [a, b, c, d, e, f, g, k] = [.b (tch k.int [a, b])] := by
  show vt33.val T33 _ = _
  simp only [vt33, VT.val, X.ds, X.d, Op2.ev, List.getD_cons_zero, List.getD_cons_succ, D.bool_b, ite_b, ite_or, tch, cI]
theorem dec_eq (a k : D) : fn68 [a, k] = [decD k.int a] := by
  show vt68.val T68 _ = _
  simp only [vt68, VT.val, X.ds, X.d, Op2.ev, List.getD_cons_zero, List.getD_cons_succ, D.int_i, D.bool_b, decD]
  by_cases h : k.int < a.int
  · rw [if_pos (by simpa using h), if_pos h]
  · rw [if_neg (by simpa using h), if_neg h]
end Go.Proofs.Ythnilbkkihmpoaa.rv
