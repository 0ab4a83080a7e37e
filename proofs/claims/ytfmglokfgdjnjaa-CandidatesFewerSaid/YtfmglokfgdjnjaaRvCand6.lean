/-
  Candidates: boxes around a box and along a path; equal lists.
-/
import Derived.Test.YtfmglokfgdjnjaaRvCand5
namespace Go.Proofs.Ytfmglokfgdjnjaa.rv
open Go.RV

theorem put_val (acc : List Bx) (q : Bx) : (if bv q.1 q.2.1 q.2.2.1 q.2.2.2 = true then [D.i 0, D.l (acc.map encQ ++ [[D.i q.1, D.i q.2.1, D.i q.2.2.1, D.i q.2.2.2]])] else [D.i 0, D.l (acc.map encQ)]) = [D.i 0, D.l ((acc ++ putf q).map encQ)] := by
  have e : bv q.1 q.2.1 q.2.2.1 q.2.2.2 = vq q := rfl
  rw [e, putf]
  split
  · rw [List.map_append]; rfl
  · rw [List.append_nil]
theorem mp10_0 : ProcMeets Try.prog 23 Sp10_23 P10_0 1 (R P10_0.key) (F P10_0.key) := by
  refine proc_meets mixed (sgAt_all (P := Try.prog) (pre := R) (Φ := F) (l := sgp10_0) (List.forall_mem_cons.2 ⟨Meets.at (pre := R) (Φ := F) m21, (fun _ h => nomatch h)⟩)) Try.func23 bp10_0 np10_0 (loops_n 0 kp10_0 fun k hk => by omega) pe10_0 pp10_0 pl10_0 (by decide) fun ρ _ hp => ?_
  obtain ⟨acc, q, rfl, hm⟩ : putPre ρ := hp
  have e : F P10_0.key [.l (acc.map encQ), .i q.1, .i q.2.1, .i q.2.2.1, .i q.2.2.2] = [.i 0, .l ((acc ++ putf q).map encQ)] := by
    rw [show F P10_0.key = putD from F17023000]
    simp only [putD, map_decQ]
  rw [e, ← put_val]
  have hl : decide (((acc.length + 1 : Nat) : Int) ≤ 4398046511104) = true := decide_eq_true (by omega)
  simp only [pv10_0, VT.ok, Nd.holds, X.outs, X.ds, X.d, Op1.ev, Op2.ev, takeD_zero, takeD_cons, List.cons_append, List.nil_append, List.getD_cons_zero, List.getD_cons_succ, D.int_i, D.bool_b, D.lst_l, List.length_map, implies_true, true_and, F21, R21, fn21_eq, List.length_append, List.length_cons, List.length_nil, Nat.zero_add, hl]
  split <;> rfl
theorem mp13_0 : ProcMeets Try.prog 28 Sp13_28 P13_0 1 (R P13_0.key) (F P13_0.key) := by
  refine proc_meets mixed (sgAt_all (P := Try.prog) (pre := R) (Φ := F) (l := sgp13_0) (List.forall_mem_cons.2 ⟨Meets.at (pre := R) (Φ := F) m21, (fun _ h => nomatch h)⟩)) Try.func28 bp13_0 np13_0 (loops_n 0 kp13_0 fun k hk => by omega) pe13_0 pp13_0 pl13_0 (by decide) fun ρ _ hp => ?_
  obtain ⟨acc, q, rfl, hm⟩ : putPre ρ := hp
  have e : F P13_0.key [.l (acc.map encQ), .i q.1, .i q.2.1, .i q.2.2.1, .i q.2.2.2] = [.i 0, .l ((acc ++ putf q).map encQ)] := by
    rw [show F P13_0.key = putD from F20028000]
    simp only [putD, map_decQ]
  rw [e, ← put_val]
  have hl : decide (((acc.length + 1 : Nat) : Int) ≤ 4398046511104) = true := decide_eq_true (by omega)
  simp only [pv13_0, VT.ok, Nd.holds, X.outs, X.ds, X.d, Op1.ev, Op2.ev, takeD_zero, takeD_cons, List.cons_append, List.nil_append, List.getD_cons_zero, List.getD_cons_succ, D.int_i, D.bool_b, D.lst_l, List.length_map, implies_true, true_and, F21, R21, fn21_eq, List.length_append, List.length_cons, List.length_nil, Nat.zero_add, hl]
  split <;> rfl

theorem put_len {acc : List Bx} {q : Bx} : (acc ++ putf q).length ≤ acc.length + 1 := by
  rw [List.length_append]; have := putf_len q; omega
theorem loopM10_0 : LoopMeets Try.prog F (R L10_0.key) L10_0 lb10_0 := by
  refine loop_meets (pre := R) mixed (sgAt_all (P := Try.prog) (pre := R) (Φ := F) (l := sg10) (List.forall_mem_cons.2 ⟨Meets.at (pre := R) (Φ := F) m21, List.forall_mem_cons.2 ⟨Meets.at (pre := R) (Φ := F) m22, List.forall_mem_cons.2 ⟨Meets.at (pre := R) (Φ := F) m24, List.forall_mem_cons.2 ⟨ProcMeets.at1 mp10_0, List.forall_mem_cons.2 ⟨MeetsAt.name, (fun _ h => nomatch h)⟩⟩⟩⟩⟩)) (loops_n 0 lk10_0 fun k hk => by omega) L10_0 (fun ρ => (8 - (ρ.getD 3 default).int).toNat) le10_0 fun ρ _ hp => ?_
  obtain ⟨w, h, g, k, b, acc, rfl, hv, hs, hk, ha⟩ : pr10 ρ := hp
  by_cases hlt : k < 8
  · simp (disch := omega) only [rt10_0, VT.ok, Nd.holds, X.outs, X.ds, X.d, Op2.ev, List.cons_append, List.nil_append, List.getD_cons_zero, List.getD_cons_succ, D.int_i, D.bool_b, implies_true, true_and, F17023000, R17023000, F24, R24, ↓reduceIte, dlt_t, w64', fn24_eq hv hs (k := (k : Int)) (by omega)]
    have hpre : putPre [.l (acc.map encQ), .i (place b w h g k).1, .i (place b w h g k).2.1, .i (place b w h g k).2.2.1, .i (place b w h g k).2.2.2] := ⟨acc, place b w h g k, rfl, by omega⟩
    simp only [encQ, putD, map_decQ, takeD_zero, takeD_cons, List.cons_append, List.nil_append, List.getD_cons_zero, List.getD_cons_succ]
    refine ⟨fun _ => hpre, ?_⟩
    refine round_next ⟨⟨w, h, g, k + 1, b, acc ++ putf (place b w h g k), rfl, hv, hs, by omega, Nat.le_trans put_len (by omega)⟩, ?_, ?_⟩
    · show (8 - ((k + 1 : Nat) : Int)).toNat < (8 - (k : Int)).toNat
      omega
    · show lp10 [.i w, .i h, .i g, .i ((k + 1 : Nat) : Int), .i b.1, .i b.2.1, .i b.2.2.1, .i b.2.2.2, .l ((acc ++ putf (place b w h g k)).map encQ)] = lp10 [.i w, .i h, .i g, .i (k : Int), .i b.1, .i b.2.1, .i b.2.2.1, .i b.2.2.2, .l (acc.map encQ)]
      simp only [lp10, map_decQ, Int.toNat_natCast]
      rw [coll_next (f := fun k => putf (place (b.1, b.2.1, b.2.2.1, b.2.2.2) w h g k)) hlt acc]
  · have hk : k = 8 := by omega
    subst hk
    simp (disch := omega) only [rt10_0, VT.ok, X.ds, X.d, Op2.ev, List.getD_cons_zero, List.getD_cons_succ, D.int_i, D.bool_b, Bool.false_eq_true, ↓reduceIte, dlt_f]
    refine round_exit (by omega) ?_
    show lp10 [.i w, .i h, .i g, .i ((8 : Nat) : Int), .i b.1, .i b.2.1, .i b.2.2.1, .i b.2.2.2, .l (acc.map encQ)] = _
    simp only [lp10, map_decQ, Int.toNat_natCast, coll_end]
    rfl
theorem sz22 (w h g : Int) : szD [.l [[.i w], [.i h], [.i g]]] = [.b (sz3 w h g)] := by
  rw [sz3_bad]
  simp only [szD, List.map_cons, List.map_nil, decI, List.getD_cons_zero, D.int_i, List.length_cons, List.length_nil]
  congr 3
  show (badS w || (badS h || (badS g || false))) = _
  rw [Bool.or_false, Bool.or_assoc]
theorem m10 : Meets Try.prog 10 S10 (R 10) (F 10) := by
  refine meets_of_vt (pre := R) (Φ := F) mixed (sgAt_all (P := Try.prog) (pre := R) (Φ := F) (l := sg10) (List.forall_mem_cons.2 ⟨Meets.at (pre := R) (Φ := F) m21, List.forall_mem_cons.2 ⟨Meets.at (pre := R) (Φ := F) m22, List.forall_mem_cons.2 ⟨Meets.at (pre := R) (Φ := F) m24, List.forall_mem_cons.2 ⟨ProcMeets.at1 mp10_0, List.forall_mem_cons.2 ⟨MeetsAt.name, (fun _ h => nomatch h)⟩⟩⟩⟩⟩)) Try.func10 b10 n10 (loops_n 1 k10 fun k hk => match k, hk with | 0, _ => loop_this lf10_0 loopM10_0) e10 fun ds _ hp => ?_
  obtain ⟨b, w, h, g, rfl⟩ : aroundPre ds := hp
  have hpre : szPre [.l [[.i w], [.i h], [.i g]]] := ⟨[w, h, g], rfl, by show 3 ≤ maxLen; rw [maxLen_val]; omega⟩
  simp only [vt10, VT.ok, Nd.holds, X.outs, X.ds, X.d, Op1.ev, takeD_zero, takeD_cons, List.cons_append, List.nil_append, List.getD_cons_zero, List.getD_cons_succ, D.bool_b, D.lst_l, ite_b, ite_or, implies_true, true_and, F10, F11000, R11000, F21, R21, F22, R22, fn21_eq, sz22, aroundD, around]
  refine ⟨fun _ => hpre, ?_⟩
  show if _ then _ else _
  have e : bv b.1 b.2.1 b.2.2.1 b.2.2.2 = vq b := rfl
  rw [e]
  cases hv : vq b
  · rfl
  · cases hs : sz3 w h g
    · rfl
    · simp only [Bool.not_true, Bool.or_false, Bool.false_eq_true, if_false, Bool.and_self, if_true]
      refine ⟨fun _ => ⟨w, h, g, 0, b, [], rfl, hv, hs, by omega, by simp⟩, ?_⟩
      show _ = _
      simp only [lp10, List.map_nil, List.nil_append, Int.toNat_zero]
      rfl
end Go.Proofs.Ytfmglokfgdjnjaa.rv
