/-
  Radial drawings: examples; laws 1 to 3.
-/
import Derived.Test.YtdehhmcfhaeheaaRvRad15
namespace Go.Proofs.Ytdehhmcfhaeheaa.rv
open Go.RV

theorem ex_ang : angD [.l [[.i (-1)], [.i 0], [.i 0]]] = [.l [[.i 180], [.i 90], [.i 270]], .i 0] := by kernel_rfl
theorem ex_ang2 : angD [.l [[.i (-1)], [.i (-1)]]] = [.l [[.i 90], [.i 270]], .i 0] := by kernel_rfl
theorem ex_pl : placeD [.l [[.i (-1)], [.i 0], [.i 0]], .i 1000] = [.l [[.i 0, .i 0], [.i 0, .i 1000], [.i 0, .i (-1000)]], .i 0] := by kernel_rfl
theorem ex_pl2 : placeD [.l [[.i (-1)], [.i 0], [.i 0]], .i (-1)] = [.l [], .i 1] := by kernel_rfl
theorem ex_lv : leavesD [.l [[.i (-1)], [.i 0], [.i 0]]] = [.l [[.i 2], [.i 1], [.i 1]]] := by kernel_rfl
theorem ex_st : stpD [.i 10, .i 20000] = [.i 50427] := by kernel_rfl
theorem ex_st2 : stpD [.i 0, .i 1] = [.i 0] := by kernel_rfl
theorem m8 : Meets Try.prog 8 S8 (R 8) (F 8) := by
  refine meets_of_vt (pre := R) (Φ := F) mixed (sgAt_all (P := Try.prog) (pre := R) (Φ := F) (l := sg8) (List.forall_mem_cons.2 ⟨Meets.at (pre := R) (Φ := F) m9, List.forall_mem_cons.2 ⟨Meets.at (pre := R) (Φ := F) m14, List.forall_mem_cons.2 ⟨Meets.at (pre := R) (Φ := F) m12, List.forall_mem_cons.2 ⟨Meets.at (pre := R) (Φ := F) m11, List.forall_mem_cons.2 ⟨Meets.at (pre := R) (Φ := F) m16, List.forall_mem_cons.2 ⟨Meets.at (pre := R) (Φ := F) m17, (fun _ h => nomatch h)⟩⟩⟩⟩⟩⟩)) Try.func8 b8 n8 (loops_n 0 k8 fun k hk => by omega) e8 fun ds hf _ => ?_
  have e := fits0 hf.flat
  subst e
  have l3 : lPre [.l [[.i (-1)], [.i 0], [.i 0]]] := ⟨[-1, 0, 0], rfl, by decide⟩
  have l2 : lPre [.l [[.i (-1)], [.i (-1)]]] := ⟨[-1, -1], rfl, by decide⟩
  have p3 : plPre [.l [[.i (-1)], [.i 0], [.i 0]], .i 1000] := ⟨[-1, 0, 0], 1000, rfl, by decide, by omega⟩
  have p3' : plPre [.l [[.i (-1)], [.i 0], [.i 0]], .i (-1)] := ⟨[-1, 0, 0], -1, rfl, by decide, by omega⟩
  have s1 : sameI [.l [[.i 2], [.i 1], [.i 1]], .l [[.i 2], [.i 1], [.i 1]]] := ⟨[2, 1, 1], rfl, by decide⟩
  have s2 : sameI [.l [[.i 180], [.i 90], [.i 270]], .l [[.i 180], [.i 90], [.i 270]]] := ⟨[180, 90, 270], rfl, by decide⟩
  have s3 : sameI [.l [[.i 90], [.i 270]], .l [[.i 90], [.i 270]]] := ⟨[90, 270], rfl, by decide⟩
  have s4 : sameP [.l [[.i 0, .i 0], [.i 0, .i 1000], [.i 0, .i (-1000)]], .l [[.i 0, .i 0], [.i 0, .i 1000], [.i 0, .i (-1000)]]] := ⟨[(0, 0), (0, 1000), (0, -1000)], rfl, by decide⟩
  simp only [vt8, VT.ok, Nd.holds, X.outs, X.ds, X.d, Op2.ev, takeD_zero, takeD_cons, List.cons_append, List.nil_append, List.getD_cons_zero, List.getD_cons_succ, D.int_i, D.bool_b, D.lst_l, ite_b, ite_and, if_true, implies_true, true_and, F12, R12, F9, R9, F14, R14, F17, R17, F11, R11, F16, R16, F8, one, ex_ang, ex_ang2, ex_pl, ex_pl2, ex_lv, ex_st, ex_st2]
  simp only [l3, l2, p3, p3', s1, s2, s3, s4, implies_true, true_and]
  rfl
theorem law3 : Meets Try.prog 3 S3 (fun _ => True) (fun _ => [.b true]) := by
  refine meets_of_vt (pre := R) (Φ := F) mixed (sgAt_all (P := Try.prog) (pre := R) (Φ := F) (l := sg3) (List.forall_mem_cons.2 ⟨Meets.at (pre := R) (Φ := F) m8, List.forall_mem_cons.2 ⟨Meets.at (pre := R) (Φ := F) m9, List.forall_mem_cons.2 ⟨Meets.at (pre := R) (Φ := F) m10, List.forall_mem_cons.2 ⟨Meets.at (pre := R) (Φ := F) m12, List.forall_mem_cons.2 ⟨Meets.at (pre := R) (Φ := F) m13, List.forall_mem_cons.2 ⟨Meets.at (pre := R) (Φ := F) m11, (fun _ h => nomatch h)⟩⟩⟩⟩⟩⟩)) Try.func3 b3 n3 (loops_n 0 k3 fun k hk => by omega) e3 fun ds hf _ => ?_
  obtain ⟨x0, rfl, f0⟩ := fits1 hf.flat
  obtain ⟨p, rfl, hm, _⟩ := slI f0
  have hl : lPre [.l (p.map encI)] := ⟨p, rfl, hm⟩
  by_cases h : 80 < (p.length : Int)
  · simp (disch := omega) only [vt3, VT.ok, Nd.holds, X.outs, X.ds, X.d, Op1.ev, Op2.ev, takeD_zero, takeD_cons, List.cons_append, List.nil_append, List.getD_cons_zero, List.getD_cons_succ, D.int_i, D.bool_b, D.lst_l, List.length_map, implies_true, and_true, F8, R8, ↓reduceIte, dlt_t, one]
  · have hb1 : (if okF p = true then Lrow p else []).length ≤ maxLen := by
      rw [maxLen_val]; split <;> simp [Lrow, rowF]; omega
    have hb2 : (if okF p = true then Arow p else []).length ≤ maxLen := by
      rw [maxLen_val]; split <;> simp [Arow, rowF]; omega
    have s1 : sameI [.l ((if okF p = true then Lrow p else []).map encI), .l ((if okF p = true then Lrow p else []).map encI)] := ⟨_, rfl, hb1⟩
    have s2 : sameI [.l ((if okF p = true then Arow p else []).map encI), .l ((if okF p = true then Arow p else []).map encI)] := ⟨_, rfl, hb2⟩
    simp (disch := omega) only [vt3, VT.ok, Nd.holds, X.outs, X.ds, X.d, Op1.ev, Op2.ev, takeD_zero, takeD_cons, List.cons_append, List.nil_append, List.getD_cons_zero, List.getD_cons_succ, D.int_i, D.bool_b, D.lst_l, List.length_map, Bool.false_eq_true, implies_true, and_true, F12, R12, F13, R13, F9, R9, F10, R10, F11, R11, F8, R8, ↓reduceIte, dlt_f, beq_t, one, angD, leavesD, dp_enc]
    exact ⟨fun _ => hl, fun _ => hl, fun _ => hl, fun _ => hl, fun _ => s1, fun _ => s2⟩
theorem law4 : Meets Try.prog 4 S4 (fun _ => True) (fun _ => [.b true]) := by
  refine meets_of_vt (pre := R) (Φ := F) mixed (sgAt_all (P := Try.prog) (pre := R) (Φ := F) (l := sg4) (List.forall_mem_cons.2 ⟨Meets.at (pre := R) (Φ := F) m8, List.forall_mem_cons.2 ⟨Meets.at (pre := R) (Φ := F) m14, List.forall_mem_cons.2 ⟨Meets.at (pre := R) (Φ := F) m15, List.forall_mem_cons.2 ⟨Meets.at (pre := R) (Φ := F) m16, (fun _ h => nomatch h)⟩⟩⟩⟩)) Try.func4 b4 n4 (loops_n 0 k4 fun k hk => by omega) e4 fun ds hf _ => ?_
  obtain ⟨x0, x1, rfl, f0, f1⟩ := fits2 hf.flat
  obtain ⟨p, rfl, hm, _⟩ := slI f0
  obtain ⟨s, rfl, hs⟩ := wf_i64 f1
  have hl : plPre [.l (p.map encI), .i s] := ⟨p, s, rfl, hm, hs⟩
  by_cases h : 80 < (p.length : Int)
  · simp (disch := omega) only [vt4, VT.ok, Nd.holds, X.outs, X.ds, X.d, Op1.ev, Op2.ev, takeD_zero, takeD_cons, List.cons_append, List.nil_append, List.getD_cons_zero, List.getD_cons_succ, D.int_i, D.bool_b, D.lst_l, List.length_map, implies_true, and_true, F8, R8, ↓reduceIte, dlt_t, one]
  · have hb : (pts p s).length ≤ maxLen := by
      rw [maxLen_val]; unfold pts; split <;> simp [rowF]; omega
    have s1 : sameP [.l ((pts p s).map encP), .l ((pts p s).map encP)] := ⟨_, rfl, hb⟩
    simp (disch := omega) only [vt4, VT.ok, Nd.holds, X.outs, X.ds, X.d, Op1.ev, Op2.ev, takeD_zero, takeD_cons, List.cons_append, List.nil_append, List.getD_cons_zero, List.getD_cons_succ, D.int_i, D.bool_b, D.lst_l, List.length_map, Bool.false_eq_true, implies_true, and_true, F14, R14, F15, R15, F16, R16, F8, R8, ↓reduceIte, dlt_f, beq_t, one, placeD, dp_enc]
    exact ⟨fun _ => hl, fun _ => hl, fun _ => s1⟩
theorem law5 : Meets Try.prog 5 S5 (fun _ => True) (fun _ => [.b true]) := by
  refine meets_of_vt (pre := R) (Φ := F) mixed (sgAt_all (P := Try.prog) (pre := R) (Φ := F) (l := sg5) (List.forall_mem_cons.2 ⟨Meets.at (pre := R) (Φ := F) m17, List.forall_mem_cons.2 ⟨Meets.at (pre := R) (Φ := F) m18, List.forall_mem_cons.2 ⟨Meets.at (pre := R) (Φ := F) m8, (fun _ h => nomatch h)⟩⟩⟩)) Try.func5 b5 n5 (loops_n 0 k5 fun k hk => by omega) e5 fun ds hf _ => ?_
  obtain ⟨x0, x1, rfl, f0, f1⟩ := fits2 hf.flat
  obtain ⟨n, rfl, _⟩ := wf_i64 f0
  obtain ⟨s, rfl, _⟩ := wf_i64 f1
  simp (disch := omega) only [vt5, VT.ok, Nd.holds, X.outs, X.ds, X.d, Op2.ev, takeD_zero, takeD_cons, List.cons_append, List.nil_append, List.getD_cons_zero, List.getD_cons_succ, D.int_i, D.bool_b, implies_true, and_true, F17, R17, F18, R18, F8, R8, ↓reduceIte, beq_t, one, stpD]
end Go.Proofs.Ytdehhmcfhaeheaa.rv
