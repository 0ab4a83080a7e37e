/-
  Candidates: the examples; the first three laws.
-/
import Derived.Test.YtfmglokfgdjnjaaRvCand8
namespace Go.Proofs.Ytfmglokfgdjnjaa.rv
open Go.RV

theorem ex1 : around (0, 0, 10, 10) 4 2 1 = [(3, -3, 7, -1), (11, -3, 15, -1), (11, 4, 15, 6), (11, 11, 15, 13), (3, 11, 7, 13), (-5, 11, -1, 13), (-5, 4, -1, 6), (-5, -3, -1, -1)] := by decide +kernel
theorem ex2 : along [(0, 0), (10, 0), (10, 30)] 4 2 1 = [(3, -3, 7, -1), (3, 1, 7, 3), (11, 14, 15, 16), (5, 14, 9, 16)] := by decide +kernel
theorem ex3 : free [(3, -3, 7, -1), (3, 1, 7, 3), (11, 14, 15, 16), (5, 14, 9, 16)] [(4, 0, 6, 20)] = [0, 2] := by decide +kernel
theorem ex4 : around (0, 0, 0, 0) (-1) 0 0 = [] := by decide +kernel
theorem m12 : Meets Try.prog 12 S12 (R 12) (F 12) := by
  refine meets_of_vt (pre := R) (Φ := F) mixed (sgAt_all (P := Try.prog) (pre := R) (Φ := F) (l := sg12) (List.forall_mem_cons.2 ⟨Meets.at (pre := R) (Φ := F) m10, List.forall_mem_cons.2 ⟨Meets.at (pre := R) (Φ := F) m13, List.forall_mem_cons.2 ⟨Meets.at (pre := R) (Φ := F) m9, List.forall_mem_cons.2 ⟨Meets.at (pre := R) (Φ := F) m16, List.forall_mem_cons.2 ⟨Meets.at (pre := R) (Φ := F) m15, (fun _ h => nomatch h)⟩⟩⟩⟩⟩)) Try.func12 b12 n12 (loops_n 0 k12 fun k hk => by omega) e12 fun ds hf _ => ?_
  have hd := fits0 hf.flat
  subst hd
  have e1 : aroundD [.i 0, .i 0, .i 10, .i 10, .i 4, .i 2, .i 1] = [.l ([(3, -3, 7, -1), (11, -3, 15, -1), (11, 4, 15, 6), (11, 11, 15, 13), (3, 11, 7, 13), (-5, 11, -1, 13), (-5, 4, -1, 6), (-5, -3, -1, -1)].map encQ)] := by
    simp only [aroundD, ex1]
  have e2 : alongD [.l [[.i 0, .i 0], [.i 10, .i 0], [.i 10, .i 30]], .i 4, .i 2, .i 1] = [.l [[.i 3, .i (-3), .i 7, .i (-1)], [.i 3, .i 1, .i 7, .i 3], [.i 11, .i 14, .i 15, .i 16], [.i 5, .i 14, .i 9, .i 16]]] := by
    show [D.l ((along [(0, 0), (10, 0), (10, 30)] 4 2 1).map encQ)] = _
    rw [ex2]; rfl
  have e3 : freeD [.l [[.i 3, .i (-3), .i 7, .i (-1)], [.i 3, .i 1, .i 7, .i 3], [.i 11, .i 14, .i 15, .i 16], [.i 5, .i 14, .i 9, .i 16]], .l [[.i 4, .i 0, .i 6, .i 20]]] = [.l [[.i 0], [.i 2]]] := by
    show [D.l ((free [(3, -3, 7, -1), (3, 1, 7, 3), (11, 14, 15, 16), (5, 14, 9, 16)] [(4, 0, 6, 20)]).map encI)] = _
    rw [ex3]; rfl
  have e4 : aroundD [.i 0, .i 0, .i 0, .i 0, .i (-1), .i 0, .i 0] = [.l []] := by
    simp only [aroundD, ex4, List.map_nil]
  have p1 : aroundPre [.i 0, .i 0, .i 10, .i 10, .i 4, .i 2, .i 1] := ⟨(0, 0, 10, 10), 4, 2, 1, rfl⟩
  have p2 : alongPre [.l [[.i 0, .i 0], [.i 10, .i 0], [.i 10, .i 30]], .i 4, .i 2, .i 1] := ⟨[(0, 0), (10, 0), (10, 30)], 4, 2, 1, rfl, by show 3 ≤ maxLen; rw [maxLen_val]; omega⟩
  have p3 : sameQ [.l [[.i 3, .i (-3), .i 7, .i (-1)], [.i 3, .i 1, .i 7, .i 3], [.i 11, .i 14, .i 15, .i 16], [.i 5, .i 14, .i 9, .i 16]], .l [[.i 3, .i (-3), .i 7, .i (-1)], [.i 3, .i 1, .i 7, .i 3], [.i 11, .i 14, .i 15, .i 16], [.i 5, .i 14, .i 9, .i 16]]] := ⟨[(3, -3, 7, -1), (3, 1, 7, 3), (11, 14, 15, 16), (5, 14, 9, 16)], rfl, by show 4 ≤ maxLen; rw [maxLen_val]; omega⟩
  have p4 : freePre [.l [[.i 3, .i (-3), .i 7, .i (-1)], [.i 3, .i 1, .i 7, .i 3], [.i 11, .i 14, .i 15, .i 16], [.i 5, .i 14, .i 9, .i 16]], .l [[.i 4, .i 0, .i 6, .i 20]]] := ⟨[(3, -3, 7, -1), (3, 1, 7, 3), (11, 14, 15, 16), (5, 14, 9, 16)], [(4, 0, 6, 20)], rfl, by show 4 ≤ 100; omega, by show 1 ≤ 200; omega⟩
  have p5 : sameI [.l [[.i 0], [.i 2]], .l [[.i 0], [.i 2]]] := ⟨[0, 2], rfl, by show 2 ≤ maxLen; rw [maxLen_val]; omega⟩
  have p6 : aroundPre [.i 0, .i 0, .i 0, .i 0, .i (-1), .i 0, .i 0] := ⟨(0, 0, 0, 0), -1, 0, 0, rfl⟩
  simp only [vt12, VT.ok, Nd.holds, X.outs, X.ds, X.d, Op1.ev, Op2.ev, takeD_zero, takeD_cons, List.cons_append, List.nil_append, List.getD_cons_zero, List.getD_cons_succ, D.int_i, D.bool_b, D.lst_l, ite_b, ite_and, List.length_map, F9, R9, F15, R15, F12, F10, R10, F13, R13, F16, R16, e1]
  refine ⟨fun _ => p1, fun _ => p2, ?_⟩
  simp only [e2, takeD_zero, takeD_cons, List.cons_append, List.nil_append, List.getD_cons_zero, List.getD_cons_succ]
  refine ⟨fun _ => rfl, fun _ => rfl, fun _ => p3, ?_⟩
  simp only [one, takeD_zero, takeD_cons, List.cons_append, List.nil_append, List.getD_cons_zero, List.getD_cons_succ, D.bool_b, ite_b, ite_and]
  refine ⟨fun _ => p4, ?_⟩
  simp only [e3, takeD_zero, takeD_cons, List.cons_append, List.nil_append, List.getD_cons_zero, List.getD_cons_succ, D.bool_b, ite_b, ite_and]
  refine ⟨fun _ => p5, fun _ => p6, ?_⟩
  simp only [e4, takeD_zero, takeD_cons, List.getD_cons_zero, D.lst_l]
  rfl

theorem around_len (b : Bx) (w h g : Int) : (around b w h g).length ≤ 8 := by
  unfold around
  split
  · have := coll_len (f := fun k => putf (place b w h g k)) (n := 8) (i := 0) (m := 1) fun i => putf_len _
    omega
  · simp
theorem law3 : Meets Try.prog 3 S3 (fun _ => True) (fun _ => [.b true]) := by
  refine meets_of_vt (pre := R) (Φ := F) mixed (sgAt_all (P := Try.prog) (pre := R) (Φ := F) (l := sg3) (List.forall_mem_cons.2 ⟨Meets.at (pre := R) (Φ := F) m10, List.forall_mem_cons.2 ⟨Meets.at (pre := R) (Φ := F) m11, List.forall_mem_cons.2 ⟨Meets.at (pre := R) (Φ := F) m9, List.forall_mem_cons.2 ⟨Meets.at (pre := R) (Φ := F) m12, (fun _ h => nomatch h)⟩⟩⟩⟩)) Try.func3 b3 n3 (loops_n 0 k3 fun k hk => by omega) e3 fun ds hf _ => ?_
  obtain ⟨x0, x1, x2, x3, x4, x5, x6, rfl, f0, f1, f2, f3, f4, f5, f6⟩ : ∃ x0 x1 x2 x3 x4 x5 x6, ds = [x0, x1, x2, x3, x4, x5, x6] ∧ Wf (.int .i64) x0 ∧ Wf (.int .i64) x1 ∧ Wf (.int .i64) x2 ∧ Wf (.int .i64) x3 ∧ Wf (.int .i64) x4 ∧ Wf (.int .i64) x5 ∧ Wf (.int .i64) x6 := by
    have := hf.flat
    match ds, this with
    | [x0, x1, x2, x3, x4, x5, x6], ⟨a0, a1, a2, a3, a4, a5, a6, _⟩ => exact ⟨_, _, _, _, _, _, _, rfl, a0, a1, a2, a3, a4, a5, a6⟩
  obtain ⟨a, rfl, _⟩ := wf_i64 f0
  obtain ⟨b, rfl, _⟩ := wf_i64 f1
  obtain ⟨c, rfl, _⟩ := wf_i64 f2
  obtain ⟨d, rfl, _⟩ := wf_i64 f3
  obtain ⟨w, rfl, _⟩ := wf_i64 f4
  obtain ⟨h, rfl, _⟩ := wf_i64 f5
  obtain ⟨g, rfl, _⟩ := wf_i64 f6
  have hp : aroundPre [.i a, .i b, .i c, .i d, .i w, .i h, .i g] := ⟨(a, b, c, d), w, h, g, rfl⟩
  have hs : sameQ [.l ((around (a, b, c, d) w h g).map encQ), .l ((around (a, b, c, d) w h g).map encQ)] := ⟨_, rfl, by have := around_len (a, b, c, d) w h g; rw [maxLen_val]; omega⟩
  simp only [vt3, VT.ok, Nd.holds, X.outs, X.ds, X.d, takeD_zero, takeD_cons, List.cons_append, List.nil_append, List.getD_cons_zero, List.getD_cons_succ, D.bool_b, if_true, implies_true, and_true, F9, R9, F12, R12, F10, R10, F11, R11, aroundD, one]
  exact ⟨fun _ => hp, fun _ => hp, fun _ => hs⟩
theorem along_len (l : List Pt) (w h g : Int) : (along l w h g).length ≤ 2 * (l.length - 1) := by
  unfold along
  split
  · exact coll_len (f := fun i => pair (segN l i) w h g) (n := l.length) (i := 1) fun i => pair_len _ _ _ _
  · simp
theorem law4 : Meets Try.prog 4 S4 (fun _ => True) (fun _ => [.b true]) := by
  refine meets_of_vt (pre := R) (Φ := F) mixed (sgAt_all (P := Try.prog) (pre := R) (Φ := F) (l := sg4) (List.forall_mem_cons.2 ⟨Meets.at (pre := R) (Φ := F) m12, List.forall_mem_cons.2 ⟨Meets.at (pre := R) (Φ := F) m13, List.forall_mem_cons.2 ⟨Meets.at (pre := R) (Φ := F) m14, List.forall_mem_cons.2 ⟨Meets.at (pre := R) (Φ := F) m9, (fun _ h => nomatch h)⟩⟩⟩⟩)) Try.func4 b4 n4 (loops_n 0 k4 fun k hk => by omega) e4 fun ds hf _ => ?_
  obtain ⟨x0, x4, x5, x6, rfl, f0, f4, f5, f6⟩ : ∃ x0 x4 x5 x6, ds = [x0, x4, x5, x6] ∧ Wf (.sl 45 ctsP) x0 ∧ Wf (.int .i64) x4 ∧ Wf (.int .i64) x5 ∧ Wf (.int .i64) x6 := by
    have := hf.flat
    match ds, this with
    | [x0, x4, x5, x6], ⟨a0, a4, a5, a6, _⟩ => exact ⟨_, _, _, _, rfl, a0, a4, a5, a6⟩
  obtain ⟨l, rfl, hm, _⟩ := slP f0
  obtain ⟨w, rfl, _⟩ := wf_i64 f4
  obtain ⟨h, rfl, _⟩ := wf_i64 f5
  obtain ⟨g, rfl, _⟩ := wf_i64 f6
  have hp : alongPre [.l (l.map encP), .i w, .i h, .i g] := ⟨l, w, h, g, rfl, hm⟩
  by_cases hl : 600 < (l.length : Int)
  · simp (disch := omega) only [vt4, VT.ok, Nd.holds, X.outs, X.ds, X.d, Op1.ev, Op2.ev, takeD_zero, takeD_cons, List.cons_append, List.nil_append, List.getD_cons_zero, List.getD_cons_succ, D.int_i, D.bool_b, D.lst_l, List.length_map, implies_true, and_true, F12, R12, ↓reduceIte, dlt_t, one]
  · have hs : sameQ [.l ((along l w h g).map encQ), .l ((along l w h g).map encQ)] := ⟨_, rfl, by have := along_len l w h g; rw [maxLen_val]; omega⟩
    simp (disch := omega) only [vt4, VT.ok, Nd.holds, X.outs, X.ds, X.d, Op1.ev, Op2.ev, takeD_zero, takeD_cons, List.cons_append, List.nil_append, List.getD_cons_zero, List.getD_cons_succ, D.int_i, D.bool_b, D.lst_l, List.length_map, Bool.false_eq_true, implies_true, and_true, F9, R9, F12, R12, F13, R13, F14, R14, ↓reduceIte, dlt_f, one, alongD, map_decP]
    exact ⟨fun _ => hp, fun _ => hp, fun _ => hs⟩
theorem free_len (l obs : List Bx) : (free l obs).length ≤ l.length := by
  have := coll_len (f := fun i => if freeAt l obs i = true then [(i : Int)] else []) (n := l.length) (i := 0) (m := 1) fun i => by split <;> simp
  unfold free
  omega
theorem law5 : Meets Try.prog 5 S5 (fun _ => True) (fun _ => [.b true]) := by
  refine meets_of_vt (pre := R) (Φ := F) mixed (sgAt_all (P := Try.prog) (pre := R) (Φ := F) (l := sg5) (List.forall_mem_cons.2 ⟨Meets.at (pre := R) (Φ := F) m12, List.forall_mem_cons.2 ⟨Meets.at (pre := R) (Φ := F) m16, List.forall_mem_cons.2 ⟨Meets.at (pre := R) (Φ := F) m17, List.forall_mem_cons.2 ⟨Meets.at (pre := R) (Φ := F) m15, (fun _ h => nomatch h)⟩⟩⟩⟩)) Try.func5 b5 n5 (loops_n 0 k5 fun k hk => by omega) e5 fun ds hf _ => ?_
  obtain ⟨x0, x1, rfl, f0, f1⟩ := fits2 hf.flat
  obtain ⟨l, rfl, hm, _⟩ := slQ f0
  obtain ⟨obs, rfl, hm', _⟩ := slQ f1
  by_cases hl : 100 < (l.length : Int)
  · simp (disch := omega) only [vt5, VT.ok, Nd.holds, X.outs, X.ds, X.d, Op1.ev, Op2.ev, takeD_zero, takeD_cons, List.cons_append, List.nil_append, List.getD_cons_zero, List.getD_cons_succ, D.int_i, D.bool_b, D.lst_l, List.length_map, implies_true, and_true, F12, R12, ↓reduceIte, dlt_t, one]
  · by_cases ho : 100 < (obs.length : Int)
    · simp (disch := omega) only [vt5, VT.ok, Nd.holds, X.outs, X.ds, X.d, Op1.ev, Op2.ev, takeD_zero, takeD_cons, List.cons_append, List.nil_append, List.getD_cons_zero, List.getD_cons_succ, D.int_i, D.bool_b, D.lst_l, List.length_map, Bool.false_eq_true, implies_true, and_true, F12, R12, ↓reduceIte, dlt_t, dlt_f, one]
    · have hp : freePre [.l (l.map encQ), .l (obs.map encQ)] := ⟨l, obs, rfl, by omega, by omega⟩
      have hs : sameI [.l ((free l obs).map encI), .l ((free l obs).map encI)] := ⟨_, rfl, by have := free_len l obs; rw [maxLen_val]; omega⟩
      simp (disch := omega) only [vt5, VT.ok, Nd.holds, X.outs, X.ds, X.d, Op1.ev, Op2.ev, takeD_zero, takeD_cons, List.cons_append, List.nil_append, List.getD_cons_zero, List.getD_cons_succ, D.int_i, D.bool_b, D.lst_l, List.length_map, Bool.false_eq_true, implies_true, and_true, F15, R15, F12, R12, F16, R16, F17, R17, ↓reduceIte, dlt_f, one, freeD, map_decQ]
      exact ⟨fun _ => hp, fun _ => hp, fun _ => hs⟩
end Go.Proofs.Ytfmglokfgdjnjaa.rv
