/-
 Cycles: the reference's search, which calls itself; Break.; Ranking problems: all vertices, what they need.; Ranking problems: longest ways, the loops within.; Ranking problems: longest ways, the steps of a vertex.; Ranking problems: longest ways, the queue.; Ranking problems: longest ways.; Ranking problems: longest ways, the function.; Ranking problems: a way, walked back.; Ranking problems: the numbers are raised along a way.; Ranking problems: send.; Ranking problems: certify, the loops within.; Ranking problems: the turns of certify.; Ranking problems: certify.; Ranking problems: certify, the function.; Ranking problems: Valid, the last loop of Solve.; Ranking problems: Solve.
-/
import Derived.Test.YtinaaabmmjpijaaDoorZTopGrowsO
namespace Go.Proofs.YtinaaabmmjpijaaDoor.rv
set_option maxRecDepth 10000
open Go.RV Lo
def RD (d : Nat) (f : FuncId) : List D → Prop := if f = 58 then sePreD d else if f = L58_0.key then prSeD d else R f
theorem RDa (d : Nat) : RD d 58 = sePreD d := rfl
theorem RDb (d : Nat) : RD d L58_0.key = prSeD d := rfl
theorem RDc (d : Nat) : RD d L58_1.key = prUs := rfl
theorem RDe (d : Nat) : RD d 15801 = prSeD d := rfl
theorem RDf (d : Nat) : RD d 15800 = prUs := rfl
theorem RDg (d : Nat) : RD d 77 = lxPre := rfl
theorem RDh (d : Nat) : RD d 59 = bwPre := rfl
theorem used (d : Nat) (hM : Meets Tryd.prog 58 S58 (RD d 58) (F 58)) : LoopMeets Tryd.prog F (RD d L58_1.key) L58_1 lb58_1 := by
 refine loop_meets (pre := RD d) mixed (sgAt_all (P := Tryd.prog) (pre := RD d) (Φ := F) (l := sg58) (List.forall_mem_cons.2 ⟨Meets.at (pre := RD d) (Φ := F) m59, List.forall_mem_cons.2 ⟨Meets.at (pre := RD d) (Φ := F) hM, List.forall_mem_cons.2 ⟨Meets.at (pre := RD d) (Φ := F) m77, (fun _ h => nomatch h)⟩⟩⟩)) (loops_n 0 lk58_1 fun k hk => by omega) L58_1 (fun ρ => (((ρ.getD 0 default).lst.length : Int) - (ρ.getD 3 default).int).toNat) le58_1 fun ρ _ hp => ?_
 obtain ⟨o, v, i, b, rfl, hi, ho⟩ : prUs ρ := hp
 by_cases hlt : i < o.length
 ·have hr := rowNn (l := o) hlt
  have d1 : o.drop i = o.getD i 0 :: o.drop (i + 1) := by rw [List.drop_eq_getElem_cons hlt]; simp [List.getD, hlt]
  have key : ∀ b', b' = (b || (o.getD i 0 == v)) → RoundOk F (RD d L58_1.key) (fun ρ => (((ρ.getD 0 default).lst.length : Int) - (ρ.getD 3 default).int).toNat) L58_1 [.l (o.map encN), .i (v : Int), .b b, .i (i : Int)] [.i (-1), .b b', .i ((i : Int) + 1)] := fun b' hb' => by
   refine round_next ⟨⟨o, v, i + 1, b', rfl, by omega, ho⟩, ?_, ?_⟩
   ·show (((o.map encN).length : Int) - ((i + 1 : Nat) : Int)).toNat < (((o.map encN).length : Int) - (i : Int)).toNat
    rw [lm0]; omega
   ·show lpUs [.l (o.map encN), .i (v : Int), .b b', .i ((i + 1 : Nat) : Int)] = lpUs [.l (o.map encN), .i (v : Int), .b b, .i (i : Int)]
    simp only [lpUs, gz0, gs0, D.lst_l, D.int_i, D.bool_b, tn0, map_dec decN_enc]
    rw [d1, List.contains_cons, hb', Bool.or_assoc, Bool.beq_comm (a := v)]
  cases b with
  | true =>
   simp (disch := omega) only [rt58_1, VT.ok, Nd.holds, X.ds, X.d, Op1.ev, Op2.ev, gz0, gs0, D.int_i, D.bool_b, D.lst_l, lm0, fe0, implies_true, true_and, RDc, ↓reduceIte, dle_t, dlt_t, w64', lm0, Bool.not_true]
   exact key _ rfl
  | false =>
   simp (disch := omega) only [rt58_1, VT.ok, Nd.holds, X.ds, X.d, Op1.ev, Op2.ev, gz0, gs0, D.int_i, D.bool_b, D.lst_l, tn0, lm0, fe0, implies_true, true_and, RDc, ↓reduceIte, dle_t, dlt_t, w64', lm0, hr, encN, Bool.not_false, fe0]
   refine key _ ?_
   by_cases e : o.getD i 0 = v
   ·rw [beq_t (show (o.getD i 0 : Int) = (v : Int) by omega), e, beq_self_eq_true]; rfl
   ·rw [beq_f (show (o.getD i 0 : Int) ≠ (v : Int) by omega)]
    have : (o.getD i 0 == v) = false := beq_false_of_ne e
    rw [this]; rfl
 ·have hj : i = o.length := by omega
  subst hj
  simp (disch := omega) only [rt58_1, VT.ok, X.ds, X.d, Op1.ev, Op2.ev, gz0, gs0, D.int_i, D.bool_b, D.lst_l, lm0, fe0, ↓reduceIte, dlt_f, lm0]
  refine round_exit (by omega) ?_
  show lpUs _ = _
  simp only [lpUs, gz0, gs0, D.lst_l, D.int_i, D.bool_b, tn0, map_dec decN_enc, List.drop_length, List.contains_nil, Bool.or_false, lm0]
theorem srch_len {N : Nat} {A : List (Nat × Nat)} {k : Nat} {o : List Nat} (ho : Ord N o) (hk : o.length + k = N) : (srch N A k o).length ≤ A.length := by
 obtain ⟨⟨p, _, _, he⟩, _⟩ := srch_spec (A := A) k o ho hk
 rw [← he]
 exact back_len A p
theorem turns (d : Nat) (hM : Meets Tryd.prog 58 S58 (RD d 58) (F 58)) : LoopMeets Tryd.prog F (RD d L58_0.key) L58_0 lb58_0 := by
 refine loop_meets (pre := RD d) mixed (sgAt_all (P := Tryd.prog) (pre := RD d) (Φ := F) (l := sg58) (List.forall_mem_cons.2 ⟨Meets.at (pre := RD d) (Φ := F) m59, List.forall_mem_cons.2 ⟨Meets.at (pre := RD d) (Φ := F) hM, List.forall_mem_cons.2 ⟨Meets.at (pre := RD d) (Φ := F) m77, (fun _ h => nomatch h)⟩⟩⟩)) (loops_n 1 lk58_0 fun k hk => match k, hk with | 0, _ => by rw [li58_0_0]; exact loop_this lf58_1 (used d hM)) L58_0 (fun ρ => ((ρ.getD 4 default).int - (ρ.getD 3 default).int).toNat) le58_0 fun ρ _ hp => ?_
 obtain ⟨N, A, o, best, found, v, rfl, hN, hA, hm, ho, hol, hd, hv, hb⟩ : prSeD d ρ := hp
 by_cases hlt : v < N
 ·have hu1 : prUs [.l (o.map encN), .i (v : Int), .b false, .i 0] := ⟨o, v, 0, false, rfl, Nat.zero_le _, by omega⟩
  have hu2 : lpUs [.l (o.map encN), .i (v : Int), .b false, .i 0] = [.i 0, .b (o.contains v), .i (o.length : Int)] := by
   simp only [lpUs, gz0, gs0, D.lst_l, D.int_i, D.bool_b, tn0, Int.toNat_zero, map_dec decN_enc, List.drop_zero, Bool.false_or, lm0]
  have key : ∀ b' f', turnS o (srch N A (N - o.length - 1)) v (best, found) = (b', f') → b'.length ≤ 256 → RoundOk F (RD d L58_0.key) (fun ρ => ((ρ.getD 4 default).int - (ρ.getD 3 default).int).toNat) L58_0 [.l (o.map encN), .l (best.map encN), .b found, .i (v : Int), .i (N : Int), .l (A.map encA)] [.i (-1), .l (b'.map encN), .b f', .i ((v : Int) + 1)] := fun b' f' ht hb' => by
   refine round_next ⟨⟨N, A, o, b', f', v + 1, rfl, hN, hA, hm, ho, hol, hd, by omega, hb'⟩, ?_, ?_⟩
   ·show ((N : Int) - ((v + 1 : Nat) : Int)).toNat < ((N : Int) - (v : Int)).toNat
    omega
   ·show lpSe [.l (o.map encN), .l (b'.map encN), .b f', .i ((v + 1 : Nat) : Int), .i (N : Int), .l (A.map encA)] = lpSe [.l (o.map encN), .l (best.map encN), .b found, .i (v : Int), .i (N : Int), .l (A.map encA)]
    simp only [lpSe, gz0, gs0, D.lst_l, D.int_i, D.bool_b, tn0, map_dec decN_enc, map_dec decA_enc]
    rw [fold_next (i := v) (s := (best, found)) hlt, ht]
  by_cases hc : v ∈ o
  ·have hct : o.contains v = true := by simpa using hc
   simp (disch := omega) only [rt58_0, VT.ok, Nd.holds, X.outs, X.ds, X.d, Op1.ev, Op2.ev, takeD_zero, takeD_cons, List.cons_append, List.nil_append, gz0, gs0, D.int_i, D.bool_b, fe0, F15800, RDb, RDf, ↓reduceIte, dlt_t, w64', hu2, hct, Bool.not_true, fe0]
   exact ⟨fun _ => hu1, key _ _ (by rw [turnS, if_pos hc]) hb⟩
  ·have hct : o.contains v = false := by simpa using hc
   have hos := ho.snoc hlt hc
   have hol' : (o ++ [v]).length = o.length + 1 := by simp
   have hs1 : sePreD d [.i (N : Int), .l (A.map encA), .l ((o ++ [v]).map encN)] := ⟨N, A, o ++ [v], rfl, hN, hA, hm, hos, by omega⟩
   have hs2 : seD [.i (N : Int), .l (A.map encA), .l ((o ++ [v]).map encN)] = [.l ((srch N A (N - o.length - 1) (o ++ [v])).map encN)] := by
    simp only [seD, gz0, gs0, D.lst_l, D.int_i, tn0, map_dec decN_enc, map_dec decA_enc, hol']
    rfl
   have hsl := srch_len (A := A) (k := N - o.length - 1) hos (by omega)
   generalize hS : srch N A (N - o.length - 1) (o ++ [v]) = s at *
   have hl1 : lxPre [.l (s.map encN), .l (best.map encN)] := ⟨s, best, rfl, by omega, hb⟩
   have hl2 : lxD [.l (s.map encN), .l (best.map encN)] = [.b (lessL s best)] := by
    simp only [lxD, gz0, gs0, D.lst_l, map_dec decN_enc]
   have hle1 : decide (((o.map encN).length : Int) ≤ 17592186044416) = true := decide_eq_true (by rw [lm0]; omega)
   have hle2 : decide ((((o ++ [v]).map encN).length : Int) ≤ 17592186044416) = true := decide_eq_true (by rw [lm0, hol']; omega)
   simp (disch := omega) only [rt58_0, VT.ok, Nd.holds, X.outs, X.ds, X.d, Op1.ev, Op2.ev, takeD_zero, takeD_cons, List.cons_append, List.nil_append, gz0, gs0, D.int_i, D.bool_b, D.lst_l, ite_b, ite_or, lm0, implies_true, true_and, F77, F15800, F58, RDa, RDb, RDf, RDg, ↓reduceIte, dle_t, dlt_t, w64', catN, hu2, hct, hs2, hl2, Bool.not_false]
   refine ⟨fun _ => hu1, fun _ => hs1, fun _ => hl1, ?_⟩
   by_cases hq : (!found || lessL s best) = true
   ·rw [if_pos (by cases found <;> simp_all)]
    exact key _ _ (by rw [turnS, if_neg hc, hS, if_pos hq]) (by omega)
   ·rw [if_neg (by cases found <;> simp_all)]
    exact key _ _ (by rw [turnS, if_neg hc, hS, if_neg hq]) hb
 ·have hj : v = N := by omega
  subst hj
  simp (disch := omega) only [rt58_0, VT.ok, X.ds, X.d, Op2.ev, gz0, gs0, D.int_i, D.bool_b, fe0, ↓reduceIte, dlt_f]
  refine round_exit (by omega) ?_
  show lpSe _ = _
  simp only [lpSe, gz0, gs0, D.lst_l, D.int_i, D.bool_b, tn0, map_dec decN_enc, map_dec decA_enc, fold_end]
theorem deep : ∀ d, Meets Tryd.prog 58 S58 (RD d 58) (F 58)
 | 0 => (meets_none (fnD := F 58) Tryd.func58 b58 n58).to fun ds _ hp => by
  obtain ⟨N, A, o, _, _, _, _, ho, hd⟩ : sePreD 0 ds := hp
  have := ho.len
  omega
 | d + 1 => by
  have hM := deep d
  refine meets_of_vt (pre := RD d) (Φ := F) mixed (sgAt_all (P := Tryd.prog) (pre := RD d) (Φ := F) (l := sg58) (List.forall_mem_cons.2 ⟨Meets.at (pre := RD d) (Φ := F) m59, List.forall_mem_cons.2 ⟨Meets.at (pre := RD d) (Φ := F) hM, List.forall_mem_cons.2 ⟨Meets.at (pre := RD d) (Φ := F) m77, (fun _ h => nomatch h)⟩⟩⟩)) Tryd.func58 b58 n58 (loops_n 2 k58 fun k hk => match k, hk with | 0, _ => loop_this lf58_0 (turns d hM) | 1, _ => loop_this lf58_1 (used d hM)) e58 fun ds _ hp => ?_
  obtain ⟨N, A, o, rfl, hN, hA, hm, ho, hd⟩ : sePreD (d + 1) ds := hp
  have hol := ho.len
  have hout : F 58 [.i (N : Int), .l (A.map encA), .l (o.map encN)] = [.l ((srch N A (N - o.length) o).map encN)] := by
   show seD _ = _
   simp only [seD, gz0, gs0, D.lst_l, D.int_i, tn0, map_dec decN_enc, map_dec decA_enc]
  rw [hout]
  by_cases e : o.length = N
  ·have h1 : bwPre [.i (N : Int), .l (A.map encA), .l (o.map encN)] := ⟨N, A, o, rfl, hN, hA, hm, ho, e⟩
   have h2 : bwD [.i (N : Int), .l (A.map encA), .l (o.map encN)] = [.l ((backL A o).map encN)] := by
    simp only [bwD, gz0, gs0, D.lst_l, map_dec decA_enc, map_dec decN_enc]
   have e0 : N - o.length = 0 := by omega
   rw [e0, srch]
   simp (disch := omega) only [vt58, VT.ok, Nd.holds, X.outs, X.ds, X.d, Op1.ev, Op2.ev, takeD_zero, takeD_cons, List.cons_append, List.nil_append, gz0, gs0, D.int_i, D.bool_b, D.lst_l, lm0, and_true, F59, RDh, ↓reduceIte, beq_t, lm0, h2]
   exact fun _ => h1
  ·have h1 : prSeD d [.l (o.map encN), .l [], .b false, .i 0, .i (N : Int), .l (A.map encA)] := ⟨N, A, o, [], false, 0, rfl, hN, hA, hm, ho, by omega, by omega, Nat.zero_le _, Nat.zero_le _⟩
   have e0 : N - o.length = (N - o.length - 1) + 1 := by omega
   have h2 : lpSe [.l (o.map encN), .l [], .b false, .i 0, .i (N : Int), .l (A.map encA)] = [.i 0, .l ((srch N A (N - o.length) o).map encN), .b (foldN (turnS o (srch N A (N - o.length - 1))) N 0 ([], false)).2, .i (N : Int)] := by
    simp only [lpSe, gz0, gs0, D.lst_l, D.int_i, D.bool_b, tn0, Int.toNat_zero, map_dec decN_enc, map_dec decA_enc, List.map_nil]
    rw [e0, srch]
    rfl
   simp (disch := omega) only [vt58, VT.ok, Nd.holds, X.outs, X.ds, X.d, Op1.ev, Op2.ev, takeD_zero, takeD_cons, List.cons_append, List.nil_append, gz0, gs0, D.int_i, D.bool_b, D.lst_l, lm0, fe0, and_true, F15801, RDe, ↓reduceIte, beq_f, lm0, h2]
   exact fun _ => h1
theorem m58 : Meets Tryd.prog 58 S58 (R 58) (F 58) := deep 9
theorem m40 : Meets Tryd.prog 40 S40 (R 40) (F 40) := by
 refine meets_of_vt (pre := R) (Φ := F) mixed (sgAt_all (P := Tryd.prog) (pre := R) (Φ := F) (l := sg40) (fcm ⟨m39, fcm ⟨m58, (fun _ h => nomatch h)⟩⟩)) Tryd.func40 b40 n40 (loops_n 0 k40 fun k hk => by omega) e40 fun ds _ hp => ?_
 have hp' := hp
 obtain ⟨N, A, rfl, hN, hA, hm⟩ : dgPre ds := hp
 have h1 : sePreD 9 [.i (N : Int), .l (A.map encA), .l []] := ⟨N, A, [], rfl, hN, hA, hm, Ord.nil N, by simp; omega⟩
 have h2 : seD [.i (N : Int), .l (A.map encA), .l []] = [.l ((srch N A N []).map encN)] := by
  simp only [seD, gz0, gs0, D.lst_l, D.int_i, tn0, map_dec decA_enc, List.map_nil, List.length_nil, Nat.sub_zero]
 have hv : dvD [.i (N : Int), .l (A.map encA)] = [.b true] := rfl
 have hout : F 40 [.i (N : Int), .l (A.map encA)] = [.l ((srch N A N []).map encN), .i 0] := by
  show rlD _ = _
  simp only [rlD, gz0, gs0, D.lst_l, D.int_i, tn0, map_dec decA_enc]
 rw [hout]
 simp (disch := omega) only [vt40, VT.ok, Nd.holds, X.outs, X.ds, X.d, Op1.ev, Op2.ev, takeD_zero, takeD_cons, List.cons_append, List.nil_append, gz0, gs0, D.int_i, D.bool_b, fe0, and_true, F39, R39, F58, R58, ↓reduceIte, dlt_f, hv, h2, Bool.not_true, fe0]
 exact ⟨fun _ => hp', fun _ => h1⟩
theorem m41 : Meets Tryd.prog 41 S41 (R 41) (F 41) := meets_none Tryd.func41 b41 n41
theorem loopM42_0 : LoopMeets Tryd.prog F (R L42_0.key) L42_0 lb42_0 := by
 refine loop_meets (pre := R) mixed (sgAt_all (P := Tryd.prog) (pre := R) (Φ := F) (l := sg42) ((fun _ h => nomatch h))) (loops_n 0 lk42_0 fun k hk => by omega) L42_0 (fun ρ => (((ρ.getD 0 default).lst.length : Int) - (ρ.getD 1 default).int).toNat) le42_0 fun ρ _ hp => ?_
 obtain ⟨N, A, S, j, rfl, hj, hS, hm⟩ : prRf ρ := hp
 have hSl := hS.len
 by_cases hlt : j < S.length
 ·have hs : S.getD j 0 < A.length := hS.lt _ (by simp [List.getD, hlt])
  have hrS := rowNn (l := S) hlt
  have hrA := rowA (l := A) hs
  have hsp : ∀ a b c d : D, splice [a, b] 0 [c, d] = [c, d] := fun _ _ _ _ => rfl
  simp (disch := omega) only [rt42_0, VT.ok, Nd.holds, X.ds, X.d, Op1.ev, Op2.ev, gz0, gs0, D.int_i, D.bool_b, D.lst_l, tn0, lm0, implies_true, true_and, ↓reduceIte, dle_t, dlt_t, w64', lm0, hrS, encN, hrA, encA, hsp, setA]
  refine round_next ⟨⟨N, A.set (S.getD j 0) ((arc A (S.getD j 0)).2, (arc A (S.getD j 0)).1), S, j + 1, rfl, by omega, by rw [List.length_set]; exact hS, by rw [List.length_set]; exact hm⟩, ?_, ?_⟩
  ·show (((S.map encN).length : Int) - ((j + 1 : Nat) : Int)).toNat < (((S.map encN).length : Int) - (j : Int)).toNat
   rw [lm0]; omega
  ·show lpRf [.l (S.map encN), .i ((j + 1 : Nat) : Int), .i (N : Int), .l ((A.set (S.getD j 0) (swp (arc A (S.getD j 0)))).map encA)] = lpRf [.l (S.map encN), .i (j : Int), .i (N : Int), .l (A.map encA)]
   simp only [lpRf, gz0, gs0, D.lst_l, D.int_i, tn0, map_dec decN_enc, map_dec decA_enc, lm0]
   rw [fold_next (i := j) (s := A) hlt]
 ·have hj : j = S.length := by omega
  subst hj
  simp (disch := omega) only [rt42_0, VT.ok, X.ds, X.d, Op1.ev, Op2.ev, gz0, gs0, D.int_i, D.bool_b, D.lst_l, lm0, fe0, ↓reduceIte, dlt_f, lm0]
  refine round_exit (by omega) ?_
  show lpRf _ = _
  simp only [lpRf, gz0, gs0, D.lst_l, D.int_i, tn0, map_dec decN_enc, map_dec decA_enc, lm0, fold_end]
theorem flip_fold {A : List (Nat × Nat)} {S : List Nat} (hS : OkS S A.length) : foldN (fun j (B : List (Nat × Nat)) => B.set (S.getD j 0) (swp (arc B (S.getD j 0)))) S.length 0 A = flipS A S := by
 have := fold_inv (f := fun j (B : List (Nat × Nat)) => B.set (S.getD j 0) (swp (arc B (S.getD j 0)))) (I := fun j B => B = flipS A (S.take j)) (n := S.length) (fun j B hj hB => by
  subst hB
  have hs : S.getD j 0 < A.length := hS.lt _ (by simp [List.getD, hj])
  rw [flipS_step hj hS, flipS_get A _ hs, if_neg (not_take hj hS.nd)]) S.length 0 A (by omega) (by rw [List.take_zero, flipS_nil])
 rw [this, List.take_length]
theorem m42 : Meets Tryd.prog 42 S42 (R 42) (F 42) := by
 refine meets_of_vt (pre := R) (Φ := F) mixed (sgAt_all (P := Tryd.prog) (pre := R) (Φ := F) (l := sg42) ((fun _ h => nomatch h))) Tryd.func42 b42 n42 (loops_n 1 k42 fun k hk => match k, hk with | 0, _ => loop_this lf42_0 loopM42_0) e42 fun ds _ hp => ?_
 obtain ⟨N, A, S, rfl, hN, hA, hm, hS⟩ : flPre ds := hp
 have hSl := hS.len
 have h1 : prRf [.l (S.map encN), .i 0, .i (N : Int), .l (A.map encA)] := ⟨N, A, S, 0, rfl, Nat.zero_le _, hS, hm⟩
 have h2 : lpRf [.l (S.map encN), .i 0, .i (N : Int), .l (A.map encA)] = [.i 0, .i (S.length : Int), .l ((flipS A S).map encA)] := by
  simp only [lpRf, gz0, gs0, D.lst_l, D.int_i, Int.toNat_zero, map_dec decN_enc, map_dec decA_enc, lm0, flip_fold hS]
 have hout : F 42 [.i (N : Int), .l (A.map encA), .l (S.map encN)] = [.i (N : Int), .l ((flipS A S).map encA)] := by
  show rfD _ = _
  simp only [rfD, gz0, gs0, D.lst_l, map_dec decA_enc, map_dec decN_enc]
 rw [hout]
 simp (disch := omega) only [vt42, VT.ok, Nd.holds, X.outs, X.ds, X.d, Op1.ev, Op2.ev, takeD_zero, takeD_cons, List.cons_append, List.nil_append, gz0, gs0, D.int_i, D.bool_b, D.lst_l, lm0, implies_true, true_and, and_true, F14200, R14200, dle_t, lm0, h2]
 exact fun _ => h1
theorem m27 : Meets Tryd.prog 27 S27 (R 27) (F 27) := by
 refine meets_of_vt (pre := R) (Φ := F) mixed (sgAt_all (P := Tryd.prog) (pre := R) (Φ := F) (l := sg27) (fcm ⟨m39, fcm ⟨m40, fcm ⟨m41, fcm ⟨m42, (fun _ h => nomatch h)⟩⟩⟩⟩)) Tryd.func27 b27 n27 (loops_n 0 k27 fun k hk => by omega) e27 fun ds _ hp => ?_
 have hp' := hp
 obtain ⟨N, A, rfl, hN, hA, hm⟩ : dgPre ds := hp
 have hv : dvD [.i (N : Int), .l (A.map encA)] = [.b true] := rfl
 have h1 : rlD [.i (N : Int), .l (A.map encA)] = [.l ((leastD N A).map encN), .i 0] := by
  simp only [rlD, gz0, gs0, D.int_i, tn0, D.lst_l, map_dec decA_enc, least_same hN hA (by omega : A.length < 1048576)]
 have h2 : flPre [.i (N : Int), .l (A.map encA), .l ((leastD N A).map encN)] := ⟨N, A, _, rfl, hN, hA, hm, leastD_ok hN hA (by omega)⟩
 have h3 : rfD [.i (N : Int), .l (A.map encA), .l ((leastD N A).map encN)] = [.i (N : Int), .l ((flipS A (leastD N A)).map encA)] := by
  simp only [rfD, gz0, gs0, D.lst_l, map_dec decA_enc, map_dec decN_enc]
 have hout : F 27 [.i (N : Int), .l (A.map encA)] = [.l ((leastD N A).map encN), .i (N : Int), .l ((flipS A (leastD N A)).map encA)] := by
  show bkD _ = _
  simp only [bkD, gz0, gs0, D.int_i, tn0, D.lst_l, map_dec decA_enc]
 rw [hout]
 simp (disch := omega) only [vt27, VT.ok, Nd.holds, X.outs, X.ds, X.d, Op1.ev, Op2.ev, takeD_zero, takeD_cons, List.cons_append, List.nil_append, gz0, gs0, D.int_i, D.bool_b, fe0, and_true, F39, R39, F40, R40, F42, R42, ↓reduceIte, beq_t, hv, h1, h3, Bool.not_true, fe0]
 exact ⟨fun _ => hp', fun _ => hp', fun _ => h2⟩
end Go.Proofs.YtinaaabmmjpijaaDoor.rv
namespace Go.Proofs.YtinaaabmmjpijaaDoor.rv
set_option maxRecDepth 10000
open Go.RV Sx
theorem loopM56_0 : LoopMeets Tryd.prog F (R L56_0.key) L56_0 lb56_0 := by
 refine loop_meets (pre := R) mixed (sgAt_all (P := Tryd.prog) (pre := R) (Φ := F) (l := sg56) ((fun _ h => nomatch h))) (loops_n 0 lk56_0 fun k hk => by omega) L56_0 (fun ρ => ((ρ.getD 0 default).int - (ρ.getD 1 default).int).toNat) le56_0 fun ρ _ hp => ?_
 obtain ⟨N, i, l, rfl, hi, hN, hl⟩ : prAl ρ := hp
 by_cases hlt : i < N
 ·have hu : (l.map encN).set i (splice ((l.map encN).getD i []) 0 [.i (i : Int)]) = (l.set i i).map encN := by
   rw [row_get (enc := encN) 0 (by omega), List.map_set]; rfl
  simp (disch := omega) only [rt56_0, VT.ok, Nd.holds, X.ds, X.d, Op1.ev, Op2.ev, gz0, gs0, D.int_i, D.bool_b, D.lst_l, tn0, lm0, implies_true, true_and, ↓reduceIte, dle_t, dlt_t, w64', lm0, hu]
  refine round_next ⟨⟨N, i + 1, _, rfl, by omega, hN, by rw [List.length_set]; exact hl⟩, ?_, ?_⟩
  ·show ((N : Int) - ((i + 1 : Nat) : Int)).toNat < ((N : Int) - (i : Int)).toNat
   omega
  ·show lpAl [.i (N : Int), .i ((i + 1 : Nat) : Int), .l ((l.set i i).map encN)] = lpAl [.i (N : Int), .i (i : Int), .l (l.map encN)]
   simp only [lpAl, gz0, gs0, D.int_i, tn0, D.lst_l, map_dec decN_enc]
   rw [fold_next (f := fun i (l : List Nat) => l.set i i) (s := l) hlt]
 ·have hj : i = N := by omega
  subst hj
  simp (disch := omega) only [rt56_0, VT.ok, X.ds, X.d, Op2.ev, gz0, gs0, D.int_i, D.bool_b, fe0, ↓reduceIte, dlt_f]
  refine round_exit (by omega) ?_
  show lpAl [.i (i : Int), .i (i : Int), .l (l.map encN)] = _
  simp only [lpAl, gz0, gs0, D.int_i, tn0, D.lst_l, map_dec decN_enc, fold_end]
theorem m56 : Meets Tryd.prog 56 S56 (R 56) (F 56) := by
 refine meets_of_vt (pre := R) (Φ := F) mixed (sgAt_all (P := Tryd.prog) (pre := R) (Φ := F) (l := sg56) ((fun _ h => nomatch h))) Tryd.func56 b56 n56 (loops_n 1 k56 fun k hk => match k, hk with | 0, _ => loop_this lf56_0 loopM56_0) e56 fun ds _ hp => ?_
 obtain ⟨N, B, f, rfl, hV, hf⟩ : stepsPre ds := hp
 have hN := hV.hN
 have hrep : List.replicate N [D.i 0] = (List.replicate N 0).map encN := by rw [List.map_replicate]; rfl
 have hcl : lpAl [.i (N : Int), .i 0, .l ((List.replicate N 0).map encN)] = [.i 0, .i (N : Int), .l ((List.range N).map encN)] := by
  simp only [lpAl, gz0, gs0, D.int_i, tn0, D.lst_l, map_dec decN_enc]
  rw [fill_range N _ _ (by simp) (by simp) (fun k hk => by simp at hk)]
 have hpr : prAl [.i (N : Int), .i 0, .l ((List.replicate N 0).map encN)] := ⟨N, 0, _, rfl, Nat.zero_le _, hN, by simp⟩
 have hall : allD [prob N B f] = [.l ((List.range N).map encN)] := by simp only [allD, prob, gz0, D.ptd_p, D.int_i, tn0]
 rw [show F 56 = allD from rfl, hall]
 unfold prob
 simp (disch := omega) only [vt56, VT.ok, Nd.holds, X.outs, X.ds, X.d, Op1.ev, Op2.ev, takeD_zero, takeD_cons, List.cons_append, List.nil_append, gz0, gs0, D.int_i, D.bool_b, D.lst_l, tn0, lm0, implies_true, true_and, and_true, F15600, R15600, dle_t, D.ptd_p, List.length_cons, List.length_nil, show ((0 + 1 + 1 + 1 : Nat) == 3) = true from rfl, lm0, List.length_replicate, tn0, hrep, hcl]
 exact fun _ => hpr
theorem rowB {B : List Bd} {i : Nat} (h : i < B.length) : (B.map encB).getD i [] = encB (B.getD i b0) := row_get b0 h
theorem setI_map (l : List Int) (i : Nat) (a _z : Int) (h : i < l.length) : (l.map encI).set i (splice ((l.map encI).getD i []) 0 [.i a]) = (l.set i a).map encI := by
 rw [row_get (enc := encI) 0 h, List.map_set]; rfl
theorem needL_len : ∀ (B : List Bd) (l : List Int), (needL B l).length = l.length
 | [], l => rfl
 | b :: B, l => by rw [needL, needL_len B]; simp
theorem loopM75_0 : LoopMeets Tryd.prog F (R L75_0.key) L75_0 lb75_0 := by
 refine loop_meets (pre := R) mixed (sgAt_all (P := Tryd.prog) (pre := R) (Φ := F) (l := sg75) ((fun _ h => nomatch h))) (loops_n 0 lk75_0 fun k hk => by omega) L75_0 (fun ρ => ((ρ.getD 1 default).int - (ρ.getD 2 default).int).toNat) le75_0 fun ρ _ hp => ?_
 obtain ⟨N, B, i, l, rfl, hi, hV, hl, hb⟩ : prNd ρ := hp
 have hBl := hV.hB
 by_cases hlt : i < B.length
 ·have hmem : B.getD i b0 ∈ B := by rw [List.getD_eq_getElem?_getD, List.getElem?_eq_getElem hlt]; exact List.getElem_mem hlt
  have hdrop : B.drop i = B.getD i b0 :: B.drop (i + 1) := by rw [List.drop_eq_getElem_cons hlt, List.getD_eq_getElem?_getD, List.getElem?_eq_getElem hlt]; rfl
  obtain ⟨v1, v2, v3, v4, v5, v6, v7⟩ := hV.ok _ hmem
  have hrB : (B.map encB).getD i [] = encB (B.getD i b0) := rowB hlt
  generalize B.getD i b0 = b at *
  have hb1 := hb b.to
  have e1 : IntKind.i64.wrap (l.getD b.to 0 + b.w) = l.getD b.to 0 + b.w := w64 (by omega)
  obtain ⟨l1, hl1⟩ : ∃ l1, l1 = l.set b.to (l.getD b.to 0 + b.w) := ⟨_, rfl⟩
  have hl1l : l1.length = N := by rw [hl1, List.length_set]; exact hl
  have hg1 : ∀ v, l1.getD v 0 = if v = b.to ∧ b.to < l.length then l.getD b.to 0 + b.w else l.getD v 0 := fun v => by rw [hl1, getD_setI]
  have hb2 : -(8000 * ((i : Int) + 1)) + 8000 ≤ l1.getD b.fr 0 ∧ l1.getD b.fr 0 ≤ 8000 * ((i : Int) + 1) := by
   rw [hg1, if_neg (fun e => v3 e.1)]; have := hb b.fr; omega
  have e2 : IntKind.i64.wrap (l1.getD b.fr 0 - b.w) = l1.getD b.fr 0 - b.w := w64 (by omega)
  have u1 : (l.map encI).set b.to (splice ((l.map encI).getD b.to []) 0 [.i (l.getD b.to 0 + b.w)]) = l1.map encI := by rw [setI_map l _ _ 0 (by omega), hl1]
  have u2 : (l1.map encI).set b.fr (splice ((l1.map encI).getD b.fr []) 0 [.i (l1.getD b.fr 0 - b.w)]) = (l1.set b.fr (l1.getD b.fr 0 - b.w)).map encI := setI_map l1 _ _ 0 (by omega)
  have r1 : (l.map encI).getD b.to [] = [D.i (l.getD b.to 0)] := rowI (by omega)
  have r2 : (l1.map encI).getD b.fr [] = [D.i (l1.getD b.fr 0)] := rowI (by omega)
  rw [r1] at u1
  rw [r2] at u2
  simp (disch := omega) only [rt75_0, VT.ok, Nd.holds, X.ds, X.d, Op1.ev, Op2.ev, gz0, gs0, D.int_i, D.bool_b, D.lst_l, tn0, lm0, implies_true, true_and, ↓reduceIte, dle_t, dlt_t, w64', lm0, hrB, encB, r1, u1, hl1l, r2, e1, e2, u2]
  refine round_next ⟨⟨N, B, i + 1, _, rfl, by omega, hV, by rw [List.length_set]; exact hl1l, fun v => ?_⟩, ?_, ?_⟩
  ·rw [getD_setI]
   have h1 := hb v
   have h2 := hg1 v
   split
   ·omega
   ·rw [h2]
    split <;> omega
  ·show ((B.length : Int) - ((i + 1 : Nat) : Int)).toNat < ((B.length : Int) - (i : Int)).toNat
   omega
  ·show lpNd [.l (B.map encB), .i (B.length : Int), .i ((i + 1 : Nat) : Int), .l ((l1.set b.fr (l1.getD b.fr 0 - b.w)).map encI)] = lpNd [.l (B.map encB), .i (B.length : Int), .i (i : Int), .l (l.map encI)]
   simp only [lpNd, gz0, gs0, D.int_i, tn0, D.lst_l, map_dec decB_enc, map_dec dec_encI, hdrop, needL, ← hl1]
 ·have hj : i = B.length := by omega
  subst hj
  simp (disch := omega) only [rt75_0, VT.ok, X.ds, X.d, Op2.ev, gz0, gs0, D.int_i, D.bool_b, fe0, ↓reduceIte, dlt_f]
  refine round_exit (by omega) ?_
  show lpNd [.l (B.map encB), .i (B.length : Int), .i (B.length : Int), .l (l.map encI)] = _
  simp only [lpNd, gz0, gs0, D.int_i, tn0, D.lst_l, map_dec decB_enc, map_dec dec_encI, lm0, List.drop_length, needL]
theorem m75 : Meets Tryd.prog 75 S75 (R 75) (F 75) := by
 refine meets_of_vt (pre := R) (Φ := F) mixed (sgAt_all (P := Tryd.prog) (pre := R) (Φ := F) (l := sg75) ((fun _ h => nomatch h))) Tryd.func75 b75 n75 (loops_n 1 k75 fun k hk => match k, hk with | 0, _ => loop_this lf75_0 loopM75_0) e75 fun ds _ hp => ?_
 obtain ⟨N, B, f, rfl, hV, hf⟩ : stepsPre ds := hp
 have hN := hV.hN
 have hrep : List.replicate N [D.i 0] = (List.replicate N (0 : Int)).map encI := by rw [List.map_replicate]; rfl
 have hcl : lpNd [.l (B.map encB), .i (B.length : Int), .i 0, .l ((List.replicate N (0 : Int)).map encI)] = [.i 0, .i (B.length : Int), .l ((needL B (List.replicate N 0)).map encI)] := by
  simp only [lpNd, gz0, gs0, D.int_i, D.lst_l, map_dec decB_enc, map_dec dec_encI, lm0, Int.toNat_zero, List.drop_zero]
 have hpr : prNd [.l (B.map encB), .i (B.length : Int), .i 0, .l ((List.replicate N (0 : Int)).map encI)] := ⟨N, B, 0, _, rfl, Nat.zero_le _, hV, by simp, fun v => by
  rw [List.getD_eq_getElem?_getD, List.getElem?_replicate]
  split <;> simp⟩
 have hall : needD [prob N B f] = [.l ((needL B (List.replicate N 0)).map encI)] := by simp only [needD, prob, gz0, gs0, D.ptd_p, D.int_i, D.lst_l, tn0, map_dec decB_enc]
 rw [show F 75 = needD from rfl, hall]
 unfold prob
 simp (disch := omega) only [vt75, VT.ok, Nd.holds, X.outs, X.ds, X.d, Op1.ev, Op2.ev, takeD_zero, takeD_cons, List.cons_append, List.nil_append, gz0, gs0, D.int_i, D.bool_b, D.lst_l, tn0, lm0, implies_true, true_and, and_true, F17500, R17500, dle_t, D.ptd_p, List.length_cons, List.length_nil, show ((0 + 1 + 1 + 1 : Nat) == 3) = true from rfl, lm0, tn0, hrep, hcl]
 exact fun _ => hpr
theorem needL_get {N : Nat} : ∀ (B : List Bd) (l : List Int), (∀ b ∈ B, b.fr < N ∧ b.to < N ∧ b.fr ≠ b.to) → l.length = N → ∀ v, v < N → (needL B l).getD v 0 = l.getD v 0 + needF B (List.replicate B.length 0) v
 | [], l, _, _, v, _ => by simp [needL, needF]
 | b :: B, l, h, hl, v, hv => by
  obtain ⟨h1, h2, h3⟩ := h b List.mem_cons_self
  rw [needL, needL_get B _ (fun b hb => h b (List.mem_cons_of_mem _ hb)) (by simp [hl]) v hv]
  simp only [List.length_cons, List.replicate_succ, needF, List.headD_cons, List.tail_cons, Int.sub_zero]
  rw [getD_setI, getD_setI, getD_setI, List.length_set, hl]
  unfold pt
  have k1 : (if b.to = v then b.w else 0) = if v = b.to then b.w else 0 := by by_cases e : v = b.to <;> simp [e, Ne.symm]
  have k2 : (if b.fr = v then b.w else 0) = if v = b.fr then b.w else 0 := by by_cases e : v = b.fr <;> simp [e, Ne.symm]
  rw [k1, k2]
  by_cases e1 : v = b.fr
  ·have e2 : ¬ v = b.to := fun e => h3 (e1.symm.trans e)
   have e3 : ¬ b.fr = b.to := h3
   simp only [e1, e3, h1, h2, and_true, if_true, if_false]
   omega
  ·by_cases e2 : v = b.to
   ·simp only [e2, h1, h2, h3, Ne.symm h3, and_true, if_true, if_false]
    omega
   ·simp only [e1, e2, h1, h2, and_true, if_false]
    omega
end Go.Proofs.YtinaaabmmjpijaaDoor.rv
namespace Go.Proofs.YtinaaabmmjpijaaDoor.rv
set_option maxRecDepth 10000
open Go.RV Sx
theorem rowW {W : List Wy} {i : Nat} (h : i < W.length) : (W.map encW).getD i [] = encW (Wg W i) := row_get wyN h
theorem loopM55_0 : LoopMeets Tryd.prog F (R L55_0.key) L55_0 lb55_0 := by
 refine loop_meets (pre := R) mixed (sgAt_all (P := Tryd.prog) (pre := R) (Φ := F) (l := sg55) (fcm ⟨m74, (fun _ h => nomatch h)⟩)) (loops_n 0 lk55_0 fun k hk => by omega) L55_0 (fun ρ => ((ρ.getD 0 default).int - (ρ.getD 1 default).int).toNat) le55_0 fun ρ _ hp => ?_
 obtain ⟨N, i, W, rfl, hi, hN, hl⟩ : prNo ρ := hp
 by_cases hlt : i < N
 ·have hu : (W.map encW).set i (splice ((W.map encW).getD i []) 0 [.i (-1152921504606846976)]) = (noneAt i W).map encW := by
   rw [rowW (by omega), noneAt, List.map_set]; rfl
  simp (disch := omega) only [rt55_0, VT.ok, Nd.holds, X.ds, X.d, Op1.ev, Op2.ev, gz0, gs0, D.int_i, D.bool_b, D.lst_l, tn0, lm0, implies_true, true_and, ↓reduceIte, dle_t, dlt_t, w64', lm0, hu]
  refine round_next ⟨⟨N, i + 1, _, rfl, by omega, hN, by rw [noneAt, List.length_set]; exact hl⟩, ?_, ?_⟩
  ·show ((N : Int) - ((i + 1 : Nat) : Int)).toNat < ((N : Int) - (i : Int)).toNat
   omega
  ·show lpNo [.i (N : Int), .i ((i + 1 : Nat) : Int), .l ((noneAt i W).map encW)] = lpNo [.i (N : Int), .i (i : Int), .l (W.map encW)]
   simp only [lpNo, gz0, gs0, D.int_i, tn0, D.lst_l, map_dec decW_enc]
   rw [fold_next (f := noneAt) (s := W) hlt]
 ·have hj : i = N := by omega
  subst hj
  simp (disch := omega) only [rt55_0, VT.ok, X.ds, X.d, Op2.ev, gz0, gs0, D.int_i, D.bool_b, fe0, ↓reduceIte, dlt_f]
  refine round_exit (by omega) ?_
  show lpNo [.i (i : Int), .i (i : Int), .l (W.map encW)] = _
  simp only [lpNo, gz0, gs0, D.int_i, tn0, D.lst_l, map_dec decW_enc, fold_end]
theorem loopM55_1 : LoopMeets Tryd.prog F (R L55_1.key) L55_1 lb55_1 := by
 refine loop_meets (pre := R) mixed (sgAt_all (P := Tryd.prog) (pre := R) (Φ := F) (l := sg55) (fcm ⟨m74, (fun _ h => nomatch h)⟩)) (loops_n 0 lk55_1 fun k hk => by omega) L55_1 (fun ρ => ((ρ.getD 1 default).int - (ρ.getD 2 default).int).toNat) le55_1 fun ρ _ hp => ?_
 obtain ⟨N, i, S, W, rfl, hi, hS, hN, hl, hv⟩ : prBe ρ := hp
 by_cases hlt : i < S.length
 ·have hdrop : S.drop i = S.getD i 0 :: S.drop (i + 1) := by rw [List.drop_eq_getElem_cons hlt, List.getD_eq_getElem?_getD, List.getElem?_eq_getElem hlt]; rfl
  have hm := hv (S.getD i 0) (by rw [List.getD_eq_getElem?_getD, List.getElem?_eq_getElem hlt]; exact List.getElem_mem hlt)
  have hr : (S.map encN).getD i [] = [D.i (S.getD i 0 : Nat)] := row_get (enc := encN) 0 hlt
  generalize S.getD i 0 = v at *
  have hu : (W.map encW).set v (splice ((W.map encW).getD v []) 0 [.i 0, .i 0, .i 0, .i 0, .i 0, .b false, .b true]) = (beginAt W v).map encW := by
   rw [rowW (by omega), beginAt, List.map_set]; rfl
  simp (disch := omega) only [rt55_1, VT.ok, Nd.holds, X.ds, X.d, Op1.ev, Op2.ev, gz0, gs0, D.int_i, D.bool_b, D.lst_l, tn0, lm0, implies_true, true_and, ↓reduceIte, dle_t, dlt_t, w64', lm0, hr, hu]
  refine round_next ⟨⟨N, i + 1, S, _, rfl, by omega, hS, hN, by rw [beginAt, List.length_set]; exact hl, hv⟩, ?_, ?_⟩
  ·show ((S.length : Int) - ((i + 1 : Nat) : Int)).toNat < ((S.length : Int) - (i : Int)).toNat
   omega
  ·show lpBe [.l (S.map encN), .i (S.length : Int), .i ((i + 1 : Nat) : Int), .l ((beginAt W v).map encW)] = lpBe [.l (S.map encN), .i (S.length : Int), .i (i : Int), .l (W.map encW)]
   simp only [lpBe, gz0, gs0, D.int_i, tn0, D.lst_l, map_dec decW_enc, map_dec decN_enc, hdrop, List.foldl_cons]
 ·have hj : i = S.length := by omega
  subst hj
  simp (disch := omega) only [rt55_1, VT.ok, X.ds, X.d, Op2.ev, gz0, gs0, D.int_i, D.bool_b, fe0, ↓reduceIte, dlt_f]
  refine round_exit (by omega) ?_
  show lpBe [.l (S.map encN), .i (S.length : Int), .i (S.length : Int), .l (W.map encW)] = _
  simp only [lpBe, gz0, gs0, D.int_i, tn0, D.lst_l, map_dec decW_enc, map_dec decN_enc, List.drop_length, List.foldl_nil]
end Go.Proofs.YtinaaabmmjpijaaDoor.rv
namespace Go.Proofs.YtinaaabmmjpijaaDoor.rv
set_option maxRecDepth 10000
open Go.RV Sx
theorem rowT {l : List Bool} {i : Nat} (h : i < l.length) : (l.map encT).getD i [] = [D.b (l.getD i false)] := row_get (enc := encT) false h
theorem cntT_set {l : List Bool} {i : Nat} (b : Bool) (h : i < l.length) : cntT (l.set i b) + (if l.getD i false then 1 else 0) = cntT l + (if b then 1 else 0) := by
 unfold cntT
 induction l generalizing i with
 | nil => simp at h
 | cons a l ih =>
  cases i with
  | zero => cases a <;> cases b <;> simp
  | succ i =>
   have := ih (i := i) (by simpa using h)
   simp only [List.set_cons_succ, List.countP_cons, gs0]
   omega
theorem snocN (l : List Nat) (a : Nat) : l.map encN ++ [[D.i (a : Int)]] = (l ++ [a]).map encN := by simp [encN]
theorem outZ_in (z : Z) (a b c d : D) : inZ (a :: b :: c :: d :: outZ z) 4 = z := by
 simp only [inZ, outZ, gz0, gs0, D.lst_l, map_dec decW_enc, map_dec decT_enc, map_dec decN_enc]
theorem loopM55_4 : LoopMeets Tryd.prog F (R L55_4.key) L55_4 lb55_4 := by
 refine loop_meets (pre := R) mixed (sgAt_all (P := Tryd.prog) (pre := R) (Φ := F) (l := sg55) (fcm ⟨m74, (fun _ h => nomatch h)⟩)) (loops_n 0 lk55_4 fun k hk => by omega) L55_4 (fun ρ => ((ρ.getD 2 default).int - (ρ.getD 3 default).int).toNat) le55_4 fun ρ _ hp => ?_
 obtain ⟨N, v, i, M, st, z, rfl, hi, hst, hN, hv, hW, hwt, hs, hl1, hl2, hnx, hM⟩ : prRx ρ := hp
 by_cases hlt : i < st.length
 ·have hdrop : st.drop i = st.getD i sp0 :: st.drop (i + 1) := by rw [List.drop_eq_getElem_cons hlt, List.getD_eq_getElem?_getD, List.getElem?_eq_getElem hlt]; rfl
  have hm := hs (st.getD i sp0) (by rw [List.getD_eq_getElem?_getD, List.getElem?_eq_getElem hlt]; exact List.getElem_mem hlt)
  have hr : (st.map encS).getD i [] = encS (st.getD i sp0) := row_get sp0 hlt
  generalize st.getD i sp0 = s at *
  obtain ⟨s1, s2, s3, s4, s5⟩ := hm
  have rv := rowW (W := z.W) (i := v) (by omega)
  have rt := rowW (W := z.W) (i := s.to) (by omega)
  have rw' := rowT (l := z.wt) (i := s.to) (by omega)
  have hcn : cntT z.wt ≤ N := by rw [← hwt]; exact List.countP_le_length
  have e1 : IntKind.i64.wrap ((Wg z.W v).long + s.len) = (Wg z.W v).long + s.len := w64 (by omega)
  have hnext : ∀ z' : Z, relax1 v z s = z' → z'.W.length = N → z'.wt.length = N → (Wg z'.W v).long = (Wg z.W v).long → z'.nx.length ≤ cntT z'.wt + M →
    RoundOk F (R L55_4.key) (fun ρ => ((ρ.getD 2 default).int - (ρ.getD 3 default).int).toNat) L55_4 (.i (v : Int) :: .l (st.map encS) :: .i (st.length : Int) :: .i (i : Int) :: outZ z)
     (.i (-1) :: .i ((i + 1 : Nat) : Int) :: outZ z') := fun z' hz h1 h2 h3 h4 => by
   refine round_next ⟨⟨N, v, i + 1, M, st, z', rfl, by omega, hst, hN, hv, h1, h2, hs, by omega, by omega, h4, hM⟩, ?_, ?_⟩
   ·show ((st.length : Int) - ((i + 1 : Nat) : Int)).toNat < ((st.length : Int) - (i : Int)).toNat
    omega
   ·show lpRx (.i (v : Int) :: .l (st.map encS) :: .i (st.length : Int) :: .i ((i + 1 : Nat) : Int) :: outZ z') = lpRx (.i (v : Int) :: .l (st.map encS) :: .i (st.length : Int) :: .i (i : Int) :: outZ z)
    simp only [lpRx, gz0, gs0, D.int_i, tn0, D.lst_l, map_dec decS_enc, outZ_in, hdrop, List.foldl_cons, hz]
  by_cases hA : (Wg z.W s.to).long < (Wg z.W v).long + s.len
  ·have hWl : s.to < z.W.length := by omega
   have hvW : (Wg (z.W.set s.to ⟨(Wg z.W v).long + s.len, v, s, false⟩) v).long = (Wg z.W v).long := by rw [Wg_set hWl, if_neg (Ne.symm s2)]
   have uW : (z.W.map encW).set s.to (splice (encW (Wg z.W s.to)) 0 [.i ((Wg z.W v).long + s.len), .i (v : Int), .i (s.to : Int), .i s.len, .i (s.bound : Int), .b s.back, .b false]) = (z.W.set s.to ⟨(Wg z.W v).long + s.len, v, s, false⟩).map encW := by
    rw [List.map_set]; rfl
   rw [encW] at uW
   cases hB : z.wt.getD s.to false with
   | true =>
    have hz := hnext ⟨z.W.set s.to ⟨(Wg z.W v).long + s.len, v, s, false⟩, z.wt, z.nx⟩ (by unfold relax1; rw [if_pos hA, hB]; rfl) (by simp [hW]) hwt hvW hnx
    simp only [outZ] at hz ⊢
    rw [hB] at rw'
    simp (disch := omega) only [rt55_4, VT.ok, Nd.holds, X.ds, X.d, Op1.ev, Op2.ev, gz0, gs0, D.int_i, D.bool_b, D.lst_l, tn0, lm0, implies_true, true_and, ↓reduceIte, dle_t, dlt_t, w64', lm0, hr, encS, rv, rt, rw', encW, e1, hW, hwt, uW]
    exact hz
   | false =>
    have hc := cntT_set (l := z.wt) (i := s.to) true (by omega)
    rw [hB] at hc
    simp only [fe0, if_false, if_true] at hc
    have hz := hnext ⟨z.W.set s.to ⟨(Wg z.W v).long + s.len, v, s, false⟩, z.wt.set s.to true, z.nx ++ [s.to]⟩ (by unfold relax1; rw [if_pos hA, hB]; rfl) (by simp [hW]) (by simp [hwt]) hvW (by simp; omega)
    have uT : (z.wt.map encT).set s.to (splice [.b false] 0 [.b true]) = (z.wt.set s.to true).map encT := by rw [List.map_set]; rfl
    simp only [outZ] at hz ⊢
    rw [hB] at rw'
    simp (disch := omega) only [rt55_4, VT.ok, Nd.holds, X.ds, X.d, Op1.ev, Op2.ev, gz0, gs0, D.int_i, D.bool_b, D.lst_l, tn0, lm0, implies_true, true_and, ↓reduceIte, dle_t, dlt_t, w64', lm0, hr, encS, rv, rt, rw', encW, e1, hW, hwt, uW, uT, snocN, List.length_append, List.length_singleton]
    exact hz
  ·have hz := hnext z (by unfold relax1; rw [if_neg hA]) hW hwt rfl hnx
   simp only [outZ] at hz ⊢
   simp (disch := omega) only [rt55_4, VT.ok, Nd.holds, X.ds, X.d, Op1.ev, Op2.ev, gz0, gs0, D.int_i, D.bool_b, D.lst_l, tn0, lm0, fe0, implies_true, true_and, ↓reduceIte, dle_t, dlt_t, dlt_f, w64', lm0, hr, encS, rv, rt, encW, e1, hW]
   exact hz
 ·have hj : i = st.length := by omega
  subst hj
  simp only [outZ]
  simp (disch := omega) only [rt55_4, VT.ok, X.ds, X.d, Op2.ev, gz0, gs0, D.int_i, D.bool_b, fe0, ↓reduceIte, dlt_f]
  refine round_exit (by omega) ?_
  show lpRx (.i (v : Int) :: .l (st.map encS) :: .i (st.length : Int) :: .i (st.length : Int) :: outZ z) = _
  simp only [lpRx, gz0, gs0, D.int_i, tn0, D.lst_l, map_dec decS_enc, outZ_in, List.drop_length, List.foldl_nil]
  rfl
end Go.Proofs.YtinaaabmmjpijaaDoor.rv
namespace Go.Proofs.YtinaaabmmjpijaaDoor.rv
set_option maxRecDepth 10000
open Go.RV Sx
theorem J.bd {N : Nat} {G : List (List Sp)} {pot : Nat → Int} {S : List Nat} {W : List Wy} {k T : Nat} {t ka : Nat → Nat} (hn : Sx.Net N G pot) (h : Sx.J N G pot S W k T t ka) {v : Nat} (hr : reached W v) : -34359738368 ≤ (Wg W v).long ∧ (Wg W v).long ≤ 34359738368 := by
 have h1 := h.lo v hr
 have h2 := cnt_le W
 have h3 := h.len
 have h4 := hn.hN
 have h5 := h.up hn _ v rfl hr
 have h6 := rk_N (pot := pot) (W := W) (t := t) (h.lt hr)
 omega
theorem relax1_cnt {v M : Nat} {z : Z} {s : Sp} (hs : s.to < z.wt.length) (h : z.nx.length ≤ cntT z.wt + M) : (relax1 v z s).nx.length ≤ cntT (relax1 v z s).wt + M ∧ (relax1 v z s).wt.length = z.wt.length := by
 unfold relax1
 split
 ·cases hB : z.wt.getD s.to false with
  | true => simp only [if_true]; exact ⟨h, trivial⟩
  | false =>
   have hc := cntT_set (l := z.wt) (i := s.to) true hs
   rw [hB] at hc
   simp only [fe0, if_false, if_true, List.length_append, List.length_singleton, List.length_set] at hc ⊢
   exact ⟨by omega, trivial⟩
 ·exact ⟨h, rfl⟩
theorem relax_cnt {v M : Nat} : ∀ (l : List Sp) (z : Z), (∀ s ∈ l, s.to < z.wt.length) → z.nx.length ≤ cntT z.wt + M → (l.foldl (relax1 v) z).nx.length ≤ cntT (l.foldl (relax1 v) z).wt + M
 | [], z, _, h => h
 | s :: l, z, hs, h => by
  obtain ⟨h1, h2⟩ := relax1_cnt (v := v) (hs s List.mem_cons_self) h
  exact relax_cnt l _ (fun x hx => by rw [h2]; exact hs x (List.mem_cons_of_mem _ hx)) h1
theorem relaxV_cnt {N : Nat} {G : List (List Sp)} {v M : Nat} {z : Z} (hG : ∀ s ∈ G.getD v [], s.to < N) (hwl : z.wt.length = N) (hv : v < N) (h : z.nx.length ≤ cntT z.wt + M) : (relaxV G z v).nx.length ≤ cntT (relaxV G z v).wt + (M + 1) := by
 refine relax_cnt _ _ (fun s hs => by simp only [List.length_set]; rw [hwl]; exact hG s hs) ?_
 have hc := cntT_set (l := z.wt) (i := v) false (by omega)
 simp only [fe0, if_false] at hc ⊢
 split at hc <;> omega
theorem rowR {G : List (List Sp)} {v : Nat} (h : v < G.length) : (G.map encR).getD v [] = [D.l ((G.getD v []).map encS)] := row_get (enc := encR) [] h
theorem loopM55_3 : LoopMeets Tryd.prog F (R L55_3.key) L55_3 lb55_3 := by
 refine loop_meets (pre := R) mixed (sgAt_all (P := Tryd.prog) (pre := R) (Φ := F) (l := sg55) (fcm ⟨m74, (fun _ h => nomatch h)⟩)) (loops_n 1 lk55_3 fun k hk => match k, hk with | 0, _ => by rw [li55_3_0]; exact loop_this lf55_4 loopM55_4) L55_3 (fun ρ => ((ρ.getD 2 default).int - (ρ.getD 3 default).int).toNat) le55_3 fun ρ _ hp => ?_
 obtain ⟨N, G, pot, S, q, k, i, z, T, t, ka, rfl, hi, hq, hG, hR, hc⟩ : prVx ρ := hp
 have hN := hG.net.hN
 by_cases hlt : i < q.length
 ·have hdrop : q.drop i = q.getD i 0 :: q.drop (i + 1) := by rw [List.drop_eq_getElem_cons hlt, List.getD_eq_getElem?_getD, List.getElem?_eq_getElem hlt]; rfl
  have hr : (q.map encN).getD i [] = [D.i (q.getD i 0 : Nat)] := row_get (enc := encN) 0 hlt
  rw [hdrop] at hR
  generalize q.getD i 0 = v at *
  have hv := hR.rq v List.mem_cons_self
  have hvN := hR.j.lt hv.1
  obtain ⟨b1, b2⟩ := J.bd hG.net hR.j hv.1
  have hwl := hR.wl
  have hWl := hR.j.len
  have hGl := hG.len
  have hfew := hG.few v
  have hto : ∀ s ∈ G.getD v [], s.to < N := fun s hs => (hG.net.hG v s hs).1
  have hcnt := relaxV_cnt hto hwl hvN hc
  have hcs := cntT_set (l := z.wt) (i := v) false (by omega)
  have rR := rowR (G := G) (v := v) (by omega)
  have rT := rowT (l := z.wt) (i := v) (by omega)
  have uT : (z.wt.map encT).set v (splice [.b (z.wt.getD v false)] 0 [.b false]) = (z.wt.set v false).map encT := by rw [List.map_set]; rfl
  have hpre : prRx [.i (v : Int), .l ((G.getD v []).map encS), .i ((G.getD v []).length : Int), .i 0, .l (z.W.map encW), .l ((z.wt.set v false).map encT), .l (z.nx.map encN)] := by
   refine ⟨N, v, 0, i + 1, G.getD v [], ⟨z.W, z.wt.set v false, z.nx⟩, rfl, Nat.zero_le _, by omega, hN, hvN, hWl, by simp only [List.length_set]; exact hwl, fun s hs => ?_, by simp only; omega, by simp only; omega, ?_, by omega⟩
   ·obtain ⟨g1, g2, _, g4, g5⟩ := hG.net.hG v s hs
    exact ⟨g1, g2, hG.bnd v s hs, g4, g5⟩
   ·simp only [fe0, if_false] at hcs ⊢
    split at hcs <;> omega
  have hcl : lpRx [.i (v : Int), .l ((G.getD v []).map encS), .i ((G.getD v []).length : Int), .i 0, .l (z.W.map encW), .l ((z.wt.set v false).map encT), .l (z.nx.map encN)] = .i 0 :: .i ((G.getD v []).length : Int) :: outZ (relaxV G z v) := by
   show lpRx (.i (v : Int) :: .l ((G.getD v []).map encS) :: .i ((G.getD v []).length : Int) :: .i 0 :: outZ ⟨z.W, z.wt.set v false, z.nx⟩) = _
   simp only [lpRx, gz0, gs0, D.int_i, tn0, Int.toNat_zero, D.lst_l, map_dec decS_enc, outZ_in, List.drop_zero]
   rfl
  obtain ⟨T', t', ka', hR'⟩ := hR.next hG.net
  have hz : RoundOk F (R L55_3.key) (fun ρ => ((ρ.getD 2 default).int - (ρ.getD 3 default).int).toNat) L55_3 (.l (G.map encR) :: .l (q.map encN) :: .i (q.length : Int) :: .i (i : Int) :: outZ z)
     (.i (-1) :: .i ((i + 1 : Nat) : Int) :: outZ (relaxV G z v)) := by
   refine round_next ⟨⟨N, G, pot, S, q, k, i + 1, relaxV G z v, T', t', ka', rfl, by omega, hq, hG, hR', hcnt⟩, ?_, ?_⟩
   ·show ((q.length : Int) - ((i + 1 : Nat) : Int)).toNat < ((q.length : Int) - (i : Int)).toNat
    omega
   ·show lpVx (.l (G.map encR) :: .l (q.map encN) :: .i (q.length : Int) :: .i ((i + 1 : Nat) : Int) :: outZ (relaxV G z v)) = lpVx (.l (G.map encR) :: .l (q.map encN) :: .i (q.length : Int) :: .i (i : Int) :: outZ z)
    simp only [lpVx, gz0, gs0, D.int_i, tn0, D.lst_l, map_dec decR_enc, map_dec decN_enc, outZ_in, hdrop, List.foldl_cons]
  simp only [outZ] at hz hcl ⊢
  simp (disch := omega) only [rt55_3, VT.ok, Nd.holds, X.outs, X.ds, X.d, Op1.ev, Op2.ev, takeD_zero, takeD_cons, List.cons_append, List.nil_append, gz0, gs0, D.int_i, D.bool_b, D.lst_l, tn0, lm0, implies_true, true_and, F15502, R15502, ↓reduceIte, dle_t, dlt_t, w64', lm0, hr, rR, rT, uT, hwl, hGl, hcl]
  exact ⟨fun _ => hpre, hz⟩
 ·have hj : i = q.length := by omega
  subst hj
  simp only [outZ]
  simp (disch := omega) only [rt55_3, VT.ok, X.ds, X.d, Op2.ev, gz0, gs0, D.int_i, D.bool_b, fe0, ↓reduceIte, dlt_f]
  refine round_exit (by omega) ?_
  show lpVx (.l (G.map encR) :: .l (q.map encN) :: .i (q.length : Int) :: .i (q.length : Int) :: outZ z) = _
  simp only [lpVx, gz0, gs0, D.int_i, tn0, D.lst_l, map_dec decR_enc, map_dec decN_enc, outZ_in, List.drop_length, List.foldl_nil]
  rfl
end Go.Proofs.YtinaaabmmjpijaaDoor.rv
namespace Go.Proofs.YtinaaabmmjpijaaDoor.rv
set_option maxRecDepth 10000
open Go.RV Sx
theorem loopM55_2 : LoopMeets Tryd.prog F (R L55_2.key) L55_2 lb55_2 := by
 refine loop_meets (pre := R) mixed (sgAt_all (P := Tryd.prog) (pre := R) (Φ := F) (l := sg55) (fcm ⟨m74, (fun _ h => nomatch h)⟩)) (loops_n 2 lk55_2 fun k hk => match k, hk with | 0, _ => by rw [li55_2_0]; exact loop_this lf55_3 loopM55_3 | 1, _ => by rw [li55_2_1]; exact loop_this lf55_4 loopM55_4) L55_2 (fun ρ => (((ρ.getD 0 default).ptd.getD 0 default).int + 2 - (ρ.getD 5 default).int).toNat) le55_2 fun ρ _ hp => ?_
 obtain ⟨N, B, f, r1, r2, G, pot, S, q, r, W, wt, T, t, ka, rfl, hG, hR, hr, hq⟩ : prLo ρ := hp
 have hN := hG.net.hN
 by_cases hq0 : q = []
 ·subst hq0
  unfold prob
  have h0 : ¬ (0 : Int) < ((List.map encN []).length : Nat) := by simp
  simp (disch := omega) only [rt55_2, VT.ok, X.ds, X.d, Op1.ev, Op2.ev, gz0, gs0, D.int_i, D.bool_b, D.lst_l, lm0, fe0, ↓reduceIte, lm0, List.length_nil, show decide ((0 : Int) < ((0 : Nat) : Int)) = false from rfl]
  refine round_exit (by omega) ?_
  show lpLo [prob N B f, r1, r2, .l (G.map encR), .l (([] : List Nat).map encN), .i (r : Int), .l (W.map encW), .l (wt.map encT)] = _
  simp only [lpLo, prob, gz0, gs0, D.ptd_p, D.int_i, tn0, D.lst_l, map_dec decR_enc, map_dec decN_enc, map_dec decW_enc, map_dec decT_enc]
  have : ∀ k, loopQ G k W wt [] r = (W, wt, [], r) := fun k => by cases k <;> rfl
  rw [this]
 ·have hpos : 0 < q.length := List.length_pos_iff.2 hq0
  have hfew := hR.few hq0
  have hcN : cntT wt ≤ N := by rw [← hR.wl]; exact List.countP_le_length
  have hpre : prVx [.l (G.map encR), .l (q.map encN), .i (q.length : Int), .i 0, .l (W.map encW), .l (wt.map encT), .l []] :=
   ⟨N, G, pot, S, q, r + 1, 0, ⟨W, wt, []⟩, T, t, ka, rfl, Nat.zero_le _, by omega, hG, hR, by simp⟩
  have hcl : lpVx [.l (G.map encR), .l (q.map encN), .i (q.length : Int), .i 0, .l (W.map encW), .l (wt.map encT), .l []] = .i 0 :: .i (q.length : Int) :: outZ (round G W wt q) := by
   show lpVx (.l (G.map encR) :: .l (q.map encN) :: .i (q.length : Int) :: .i 0 :: outZ ⟨W, wt, []⟩) = _
   simp only [lpVx, gz0, gs0, D.int_i, Int.toNat_zero, D.lst_l, map_dec decR_enc, map_dec decN_enc, outZ_in, List.drop_zero]
   rfl
  obtain ⟨T', t', ka', hR'⟩ := hR.round hG.net q
  have hnl : ∀ (l : List Nat) (z : Z) (M : Nat), (∀ v ∈ l, v < N) → z.wt.length = N → z.nx.length ≤ cntT z.wt + M → (l.foldl (relaxV G) z).nx.length ≤ cntT (l.foldl (relaxV G) z).wt + (M + l.length) ∧ (l.foldl (relaxV G) z).wt.length = N := by
   intro l
   induction l with
   | nil => intro z M _ h1 h2; exact ⟨h2, h1⟩
   | cons v l ih =>
    intro z M hv h1 h2
    have hto : ∀ s ∈ G.getD v [], s.to < N := fun s hs => (hG.net.hG v s hs).1
    have h3 := relaxV_cnt hto h1 (hv v List.mem_cons_self) h2
    have h4 : (relaxV G z v).wt.length = N := by
     have : ∀ (l : List Sp) (z : Z), (∀ s ∈ l, s.to < N) → z.wt.length = N → (l.foldl (relax1 v) z).wt.length = N := by
      intro l
      induction l with
      | nil => intro z _ h; exact h
      | cons s l ih =>
       intro z hs h
       refine ih _ (fun x hx => hs x (List.mem_cons_of_mem _ hx)) ?_
       unfold relax1
       split
       ·simp only; split <;> simp [h]
       ·exact h
     exact this _ _ hto (by simp [h1])
    obtain ⟨i1, i2⟩ := ih _ _ (fun x hx => hv x (List.mem_cons_of_mem _ hx)) h4 h3
    rw [List.foldl_cons]
    exact ⟨by simp only [List.length_cons]; omega, i2⟩
  obtain ⟨c1, c2⟩ := hnl q ⟨W, wt, []⟩ 0 (fun v hv => hR.j.lt (hR.rq v hv).1) hR.wl (by simp)
  have hcz : cntT (round G W wt q).wt ≤ N := by
   have : (round G W wt q).wt.length = N := c2
   rw [← this]; exact List.countP_le_length
  have c1' : (round G W wt q).nx.length ≤ cntT (round G W wt q).wt + (0 + q.length) := c1
  have hz : RoundOk F (R L55_2.key) (fun ρ => (((ρ.getD 0 default).ptd.getD 0 default).int + 2 - (ρ.getD 5 default).int).toNat) L55_2 [prob N B f, r1, r2, .l (G.map encR), .l (q.map encN), .i (r : Int), .l (W.map encW), .l (wt.map encT)]
    [.i (-1), r1, r2, .l ((round G W wt q).nx.map encN), .i ((r + 1 : Nat) : Int), .l ((round G W wt q).W.map encW), .l ((round G W wt q).wt.map encT)] := by
   refine round_next ⟨⟨N, B, f, r1, r2, G, pot, S, (round G W wt q).nx, r + 1, (round G W wt q).W, (round G W wt q).wt, T', t', ka', rfl, hG, hR'.turn, by omega, by omega⟩, ?_, ?_⟩
   ·show ((N : Int) + 2 - ((r + 1 : Nat) : Int)).toNat < ((N : Int) + 2 - (r : Int)).toNat
    omega
   ·show lpLo [prob N B f, r1, r2, .l (G.map encR), .l ((round G W wt q).nx.map encN), .i ((r + 1 : Nat) : Int), .l ((round G W wt q).W.map encW), .l ((round G W wt q).wt.map encT)] = lpLo [prob N B f, r1, r2, .l (G.map encR), .l (q.map encN), .i (r : Int), .l (W.map encW), .l (wt.map encT)]
    simp only [lpLo, prob, gz0, gs0, D.ptd_p, D.int_i, tn0, D.lst_l, map_dec decR_enc, map_dec decN_enc, map_dec decW_enc, map_dec decT_enc]
    have e : N + 2 - r = (N + 2 - (r + 1)) + 1 := by omega
    have e2 : q.isEmpty = false := by cases q <;> simp_all
    rw [e, loopQ, e2]
    rfl
  simp only [outZ] at hcl
  unfold prob at hz ⊢
  simp (disch := omega) only [rt55_2, VT.ok, Nd.holds, X.outs, X.ds, X.d, Op1.ev, Op2.ev, takeD_zero, takeD_cons, List.cons_append, List.nil_append, gz0, gs0, D.int_i, D.bool_b, D.lst_l, lm0, fe0, implies_true, true_and, F15503, R15503, ↓reduceIte, dlt_t, dlt_f, w64', lm0, D.ptd_p, List.length_cons, List.length_nil, show ((0 + 1 + 1 + 1 : Nat) == 3) = true from rfl, hcl]
  exact ⟨fun _ => hpre, hz⟩
theorem fill_none : ∀ (n i : Nat) (W : List Wy), i ≤ n → W.length = n → (∀ k, k < n → W[k]? = some (if k < i then wyN else wyZ)) → foldN noneAt n i W = List.replicate n wyN := by
 intro n i
 induction h : n - i generalizing i with
 | zero =>
  intro W hi hl hk
  have : i = n := by omega
  subst this
  rw [fold_end]
  refine List.ext_getElem? fun k => ?_
  by_cases hk' : k < i
  ·rw [hk k hk', if_pos hk', List.getElem?_replicate, if_pos hk']
  ·rw [List.getElem?_eq_none (by omega), List.getElem?_eq_none (by simp; omega)]
 | succ m ih =>
  intro W hi hl hk
  rw [fold_next (by omega)]
  refine ih (i + 1) (by omega) _ (by omega) (by rw [noneAt, List.length_set]; exact hl) fun k hk' => ?_
  rw [noneAt, List.getElem?_set]
  by_cases e : i = k
  ·subst e
   have : W.getD i wyN = wyZ := by rw [List.getD_eq_getElem?_getD, hk i hk', if_neg (Nat.lt_irrefl i)]; rfl
   rw [if_pos rfl, if_pos (by omega), if_pos (by omega), this]
   rfl
  ·rw [if_neg e, hk k hk']
   congr 1
   by_cases h1 : k < i
   ·rw [if_pos h1, if_pos (by omega)]
   ·rw [if_neg h1, if_neg (by omega)]
theorem begin_get : ∀ (S : List Nat) (W : List Wy) (v : Nat), v < W.length → Wg (S.foldl beginAt W) v = if v ∈ S then wyB else Wg W v
 | [], W, v, _ => by simp
 | s :: S, W, v, h => by
  rw [List.foldl_cons, begin_get S _ v (by rw [beginAt, List.length_set]; exact h)]
  by_cases h1 : v ∈ S
  ·rw [if_pos h1, if_pos (List.mem_cons_of_mem _ h1)]
  ·rw [if_neg h1]
   unfold beginAt
   by_cases h2 : s < W.length
   ·rw [Wg_set h2]
    by_cases e : v = s
    ·subst e; simp
    ·rw [if_neg e, if_neg (by simp [e, h1])]
   ·have e : v ≠ s := by omega
    rw [List.set_eq_of_length_le (by omega), if_neg (by simp [e, h1])]
theorem begin_len : ∀ (S : List Nat) (W : List Wy), (S.foldl beginAt W).length = W.length
 | [], W => rfl
 | s :: S, W => by rw [List.foldl_cons, begin_len S, beginAt, List.length_set]
theorem stepsGo_few (f : List Int) : ∀ (B : List Bd) (i : Nat) (G : List (List Sp)) (v : Nat), (∀ b ∈ B, b.fr < G.length ∧ b.to < G.length) → ((stepsGo f i B G).getD v []).length ≤ (G.getD v []).length + 2 * B.length
 | [], _, G, v, _ => Nat.le_refl _
 | b :: B, i, G, v, h => by
  obtain ⟨h1, h2⟩ := h b List.mem_cons_self
  rw [stepsGo]
  refine Nat.le_trans (stepsGo_few f B _ _ v fun b' hb' => by have := h b' (List.mem_cons_of_mem _ hb'); split <;> simp only [addAt_length] <;> exact this) ?_
  have a1 := len_addAt_le (s := ⟨b.to, b.len, i, false⟩) h1 v _ (Nat.le_refl _)
  split
  ·have a2 := len_addAt_le (s := ⟨b.fr, -b.len, i, true⟩) (by rw [addAt_length]; exact h2) v _ a1
   simp only [List.length_cons]; omega
  ·simp only [List.length_cons]; omega
theorem stepsGo_length (f : List Int) : ∀ (B : List Bd) (i : Nat) (G : List (List Sp)), (stepsGo f i B G).length = G.length
 | [], _, _ => rfl
 | b :: B, i, G => by rw [stepsGo, stepsGo_length]; split <;> simp [addAt_length]
theorem steps_netD {N : Nat} {B : List Bd} {f : List Int} {pot : Nat → Int} (hV : Valid N B) (hP : Pot B f pot) : NetD N (stepsOf N B f) pot := by
 refine ⟨hP.net hV, by rw [stepsOf, stepsGo_length]; simp, fun v => ?_, fun v s hs => ?_⟩
 ·have := stepsGo_few f B 0 (List.replicate N []) v fun b hb => by simp only [List.length_replicate]; exact ⟨(hV.ok b hb).1, (hV.ok b hb).2.1⟩
  have h0 : ((List.replicate N ([] : List Sp)).getD v []).length = 0 := by rw [List.getD_eq_getElem?_getD, List.getElem?_replicate]; split <;> rfl
  have := hV.hB
  unfold stepsOf
  omega
 ·obtain ⟨i, b, hb, hc⟩ := (mem_steps hV v s).1 hs
  have := (List.getElem?_eq_some_iff.1 hb).1
  have := hV.hB
  rcases hc with ⟨_, rfl⟩ | ⟨_, _, rfl⟩ <;> (simp only; omega)
theorem longW_fin {N : Nat} {B : List Bd} {f : List Int} {S : List Nat} {pot : Nat → Int} (hV : Valid N B) (hP : Pot B f pot) (hS : ∀ v ∈ S, v < N) : (longQ N B f S).2.2.1 = [] ∧ Fin N (stepsOf N B f) S (longW N B f S) := by
 have hI := RI.init (G := stepsOf N B f) (pot := pot) (W := S.foldl beginAt (List.replicate N wyN)) (N := N) (S := S) (by rw [begin_len]; simp) hS fun v hv => by
  rw [begin_get _ _ _ (by simp [hv])]
  congr 1
  unfold Wg
  rw [List.getD_eq_getElem?_getD, List.getElem?_replicate, if_pos hv]; rfl
 exact loopQ_fin (hP.net hV) (N + 2) 0 hI (by omega)
end Go.Proofs.YtinaaabmmjpijaaDoor.rv
namespace Go.Proofs.YtinaaabmmjpijaaDoor.rv
set_option maxRecDepth 10000
open Go.RV Sx
theorem m55 : Meets Tryd.prog 55 S55 (R 55) (F 55) := by
 refine meets_of_vt (pre := R) (Φ := F) mixed (sgAt_all (P := Tryd.prog) (pre := R) (Φ := F) (l := sg55) (fcm ⟨m74, (fun _ h => nomatch h)⟩)) Tryd.func55 b55 n55 (loops_n 5 k55 fun k hk => match k, hk with | 0, _ => loop_this lf55_0 loopM55_0 | 1, _ => loop_this lf55_1 loopM55_1 | 2, _ => loop_this lf55_2 loopM55_2 | 3, _ => loop_this lf55_3 loopM55_3 | 4, _ => loop_this lf55_4 loopM55_4) e55 fun ds _ hp => ?_
 obtain ⟨N, B, f, S, pot, rfl, hV, hf, hP, hSl, hS⟩ : longPre ds := hp
 have hN := hV.hN
 have hrep : List.replicate N [D.i 0, D.i 0, D.i 0, D.i 0, D.i 0, D.b false, D.b false] = (List.replicate N wyZ).map encW := by rw [List.map_replicate]; rfl
 have hrepT : List.replicate N [D.b false] = (List.replicate N false).map encT := by rw [List.map_replicate]; rfl
 have hst : stepsD [.p [.i (N : Int), .l (B.map encB), .l (f.map encI)]] = [.l ((stepsOf N B f).map encR)] := stepsD_eq N B f
 have hstp : stepsPre [.p [.i (N : Int), .l (B.map encB), .l (f.map encI)]] := ⟨N, B, f, rfl, hV, hf⟩
 have hp0 : prNo [.i (N : Int), .i 0, .l ((List.replicate N wyZ).map encW)] := ⟨N, 0, _, rfl, Nat.zero_le _, hN, by simp⟩
 have hc0 : lpNo [.i (N : Int), .i 0, .l ((List.replicate N wyZ).map encW)] = [.i 0, .i (N : Int), .l ((List.replicate N wyN).map encW)] := by
  simp only [lpNo, gz0, gs0, D.int_i, tn0, Int.toNat_zero, D.lst_l, map_dec decW_enc]
  rw [fill_none N 0 _ (Nat.zero_le _) (by simp) fun k hk => by rw [List.getElem?_replicate, if_pos hk, if_neg (Nat.not_lt_zero k)]]
 have hp1 : prBe [.l (S.map encN), .i (S.length : Int), .i 0, .l ((List.replicate N wyN).map encW)] := ⟨N, 0, S, _, rfl, Nat.zero_le _, by omega, hN, by simp, hS⟩
 have hc1 : lpBe [.l (S.map encN), .i (S.length : Int), .i 0, .l ((List.replicate N wyN).map encW)] = [.i 0, .i (S.length : Int), .l ((S.foldl beginAt (List.replicate N wyN)).map encW)] := by
  simp only [lpBe, gz0, gs0, D.int_i, Int.toNat_zero, D.lst_l, map_dec decW_enc, map_dec decN_enc, List.drop_zero]
 have hI := RI.init (G := stepsOf N B f) (pot := pot) (W := S.foldl beginAt (List.replicate N wyN)) (N := N) (S := S) (by rw [begin_len]; simp) hS fun v hv => by
  rw [begin_get _ _ _ (by simp [hv])]
  congr 1
  unfold Wg
  rw [List.getD_eq_getElem?_getD, List.getElem?_replicate, if_pos hv]; rfl
 have hp2 : prLo [.p [.i (N : Int), .l (B.map encB), .l (f.map encI)], .l [], .b false, .l ((stepsOf N B f).map encR), .l (S.map encN), .i 0, .l ((S.foldl beginAt (List.replicate N wyN)).map encW), .l ((List.replicate N false).map encT)] :=
  ⟨N, B, f, .l [], .b false, stepsOf N B f, pot, S, S, 0, _, _, _, _, _, rfl, steps_netD hV hP, hI, Nat.zero_le _, by omega⟩
 have hc2 : lpLo [.p [.i (N : Int), .l (B.map encB), .l (f.map encI)], .l [], .b false, .l ((stepsOf N B f).map encR), .l (S.map encN), .i 0, .l ((S.foldl beginAt (List.replicate N wyN)).map encW), .l ((List.replicate N false).map encT)] =
   [.i 1, .l [], .b false, .l ((longQ N B f S).2.2.1.map encN), .i (longQ N B f S).2.2.2, .l ((longW N B f S).map encW), .l ((longQ N B f S).2.1.map encT)] := by
  simp only [lpLo, gz0, gs0, D.ptd_p, D.int_i, tn0, Int.toNat_zero, D.lst_l, map_dec decR_enc, map_dec decN_enc, map_dec decW_enc, map_dec decT_enc, Nat.sub_zero]
  rfl
 have hout : longD [prob N B f, .l (S.map encN)] = [.l ((longW N B f S).map encW), .b true] := by
  simp only [longD, prob, gz0, gs0, D.ptd_p, D.int_i, tn0, D.lst_l, map_dec decB_enc, map_dec dec_encI, map_dec decN_enc]
 rw [show F 55 = longD from rfl, hout]
 unfold prob
 simp (disch := omega) only [vt55, VT.ok, Nd.holds, X.outs, X.ds, X.d, Op1.ev, Op2.ev, takeD_zero, takeD_cons, List.cons_append, List.nil_append, gz0, gs0, D.int_i, D.bool_b, D.lst_l, tn0, lm0, fe0, implies_true, true_and, and_true, F74, R74, F15500, R15500, F15501, R15501, F15504, R15504, ↓reduceIte, dle_t, beq_f, D.ptd_p, List.length_cons, List.length_nil, show ((0 + 1 + 1 + 1 : Nat) == 3) = true from rfl, lm0, List.length_replicate, tn0, hst, hrep, hrepT, hc0, hc1, hc2]
 exact ⟨fun _ => hstp, fun _ => hp0, fun _ => hp1, fun _ => hp2⟩
end Go.Proofs.YtinaaabmmjpijaaDoor.rv
namespace Go.Proofs.YtinaaabmmjpijaaDoor.rv
set_option maxRecDepth 10000
open Go.RV Sx
section
variable {N : Nat} {B : List Bd} {f : List Int} {S : List Nat} {W : List Wy} {r : Nat → Nat} {v : Nat}
theorem Back.len (h : Back N B f S W r v) : W.length = N := h.fin.len
theorem Back.lt (h : Back N B f S W r v) : v < N := h.fin.lt h.at_
theorem Back.next (h : Back N B f S W r v) (hb : (Wg W v).beg = false) : Back N B f S W r (Wg W v).fr := ⟨h.val, h.fl, h.fin, h.rk, h.dn, (h.fin.step h.val h.at_ hb).1⟩
theorem Back.bnd (h : Back N B f S W r v) (hb : (Wg W v).beg = false) : (Wg W v).last.bound < f.length := by
 obtain ⟨_, b, h1, _⟩ := h.fin.step h.val h.at_ hb
 rw [h.fl]; exact (List.getElem?_eq_some_iff.1 h1).1
theorem walkMin_eq (W : List Wy) (g : List Int) (k v : Nat) (m : Int) (a : Nat) : walkMin W g (k + 1) v m a = if (Wg W v).beg then (m, a) else walkMin W g k (Wg W v).fr (if (Wg W v).last.back then min m (g.getD (Wg W v).last.bound 0) else m) (Wg W v).fr := rfl
theorem endV_eq (W : List Wy) (k v : Nat) : endV W (k + 1) v = if (Wg W v).beg then v else endV W k (Wg W v).fr := rfl
theorem chainL_eq (W : List Wy) (k v : Nat) : chainL W (k + 1) v = if (Wg W v).beg then 0 else chainL W k (Wg W v).fr + 1 := rfl
theorem walkAdd_eq (W : List Wy) (z : Int) (k v : Nat) (g : List Int) : walkAdd W z (k + 1) v g = if (Wg W v).beg then g else walkAdd W z k (Wg W v).fr (g.set (Wg W v).last.bound (g.getD (Wg W v).last.bound 0 + (if (Wg W v).last.back then -z else z))) := rfl
theorem walkMin_fuel (hd : ∀ v, reached W v → (Wg W v).beg = false → reached W (Wg W v).fr ∧ r (Wg W v).fr < r v) (g : List Int) : ∀ (k v : Nat) (m : Int) (a : Nat), reached W v → r v < k → walkMin W g (k + 1) v m a = walkMin W g k v m a
 | 0, v, m, a, _, h => by omega
 | k + 1, v, m, a, hr, h => by
  rw [walkMin_eq W g (k + 1) v, walkMin_eq W g k v]
  cases hb : (Wg W v).beg with
  | true => rfl
  | false =>
   obtain ⟨h1, h2⟩ := hd v hr hb
   simp only [fe0, if_false]
   exact walkMin_fuel hd g k _ _ _ h1 (by omega)
theorem endV_fuel (hd : ∀ v, reached W v → (Wg W v).beg = false → reached W (Wg W v).fr ∧ r (Wg W v).fr < r v) : ∀ (k v : Nat), reached W v → r v < k → endV W (k + 1) v = endV W k v
 | 0, v, _, h => by omega
 | k + 1, v, hr, h => by
  rw [endV_eq W (k + 1) v, endV_eq W k v]
  cases hb : (Wg W v).beg with
  | true => rfl
  | false =>
   obtain ⟨h1, h2⟩ := hd v hr hb
   simp only [fe0, if_false]
   exact endV_fuel hd k _ h1 (by omega)
theorem chainL_fuel (hd : ∀ v, reached W v → (Wg W v).beg = false → reached W (Wg W v).fr ∧ r (Wg W v).fr < r v) : ∀ (k v : Nat), reached W v → r v < k → chainL W (k + 1) v = chainL W k v
 | 0, v, _, h => by omega
 | k + 1, v, hr, h => by
  rw [chainL_eq W (k + 1) v, chainL_eq W k v]
  cases hb : (Wg W v).beg with
  | true => rfl
  | false =>
   obtain ⟨h1, h2⟩ := hd v hr hb
   simp only [fe0, if_false]
   rw [chainL_fuel hd k _ h1 (by omega)]
theorem walkAdd_fuel (hd : ∀ v, reached W v → (Wg W v).beg = false → reached W (Wg W v).fr ∧ r (Wg W v).fr < r v) (z : Int) : ∀ (k v : Nat) (g : List Int), reached W v → r v < k → walkAdd W z (k + 1) v g = walkAdd W z k v g
 | 0, v, g, _, h => by omega
 | k + 1, v, g, hr, h => by
  rw [walkAdd_eq W z (k + 1) v, walkAdd_eq W z k v]
  cases hb : (Wg W v).beg with
  | true => rfl
  | false =>
   obtain ⟨h1, h2⟩ := hd v hr hb
   simp only [fe0, if_false]
   exact walkAdd_fuel hd z k _ _ h1 (by omega)
theorem Back.hd (h : Back N B f S W r v) : ∀ v, reached W v → (Wg W v).beg = false → reached W (Wg W v).fr ∧ r (Wg W v).fr < r v := fun v hr hb => ⟨(h.fin.step h.val hr hb).1, h.dn v hr hb⟩
theorem Back.step1 (h : Back N B f S W r v) (hb : (Wg W v).beg = false) (g : List Int) (m : Int) (a : Nat) (z : Int) :
  walkMin W g W.length v m a = walkMin W g W.length (Wg W v).fr (if (Wg W v).last.back then min m (g.getD (Wg W v).last.bound 0) else m) (Wg W v).fr ∧ endV W W.length v = endV W W.length (Wg W v).fr ∧ chainL W W.length (Wg W v).fr < chainL W W.length v ∧
  walkAdd W z W.length v g = walkAdd W z W.length (Wg W v).fr (g.set (Wg W v).last.bound (g.getD (Wg W v).last.bound 0 + (if (Wg W v).last.back then -z else z))) := by
 obtain ⟨h1, h2⟩ := h.hd v h.at_ hb
 have h3 := h.rk v h.at_
 obtain ⟨k, hk⟩ : ∃ k, W.length = k + 1 := ⟨W.length - 1, by have := h.len; omega⟩
 have h4 : r (Wg W v).fr < k := by have := h.len; omega
 rw [hk]
 refine ⟨?_, ?_, ?_, ?_⟩
 ·rw [walkMin_fuel h.hd g k _ _ _ h1 h4, walkMin_eq W g k v, hb]; simp only [fe0, if_false]
 ·rw [endV_fuel h.hd k _ h1 h4, endV_eq W k v, hb]; simp only [fe0, if_false]
 ·rw [chainL_fuel h.hd k _ h1 h4, chainL_eq W k v, hb]; simp only [fe0, if_false]; omega
 ·rw [walkAdd_fuel h.hd z k _ _ h1 h4, walkAdd_eq W z k v, hb]; simp only [fe0, if_false]
theorem Back.stop (h : Back N B f S W r v) (hb : (Wg W v).beg = true) (g : List Int) (m : Int) (a : Nat) (z : Int) : walkMin W g W.length v m a = (m, a) ∧ endV W W.length v = v ∧ walkAdd W z W.length v g = g := by
 obtain ⟨k, hk⟩ : ∃ k, W.length = k + 1 := ⟨W.length - 1, by have := h.len; have := h.lt; omega⟩
 rw [hk, walkMin_eq W g k v, endV_eq W k v, walkAdd_eq W z k v, hb]
 exact ⟨rfl, rfl, rfl⟩
end
theorem loopMp35_0_0 : LoopMeets Tryd.prog F (R Lp35_0_0.key) Lp35_0_0 lbp35_0_0 := by
 refine loop_meets (pre := R) mixed (sgAt_all (P := Tryd.prog) (pre := R) (Φ := F) (l := sgp35_0) ((fun _ h => nomatch h))) (loops_n 0 lkp35_0_0 fun k hk => by omega) Lp35_0_0 (fun ρ => chainL ((ρ.getD 6 default).lst.map decW) (ρ.getD 6 default).lst.length (ρ.getD 2 default).int.toNat) lep35_0_0 fun ρ _ hp => ?_
 obtain ⟨N, B, f, S, W, r, a, v, m, x, y, rfl, hB⟩ : prS0 ρ := hp
 have hWl := hB.len
 have hv := hB.lt
 have hN := hB.val.hN
 have rv := rowW (W := W) (i := v) (by omega)
 cases hb : (Wg W v).beg with
 | true =>
  obtain ⟨e1, e2, _⟩ := hB.stop hb f m a 0
  simp (disch := omega) only [rtp35_0_0, VT.ok, Nd.holds, X.ds, X.d, Op1.ev, Op2.ev, gz0, gs0, D.int_i, D.bool_b, D.lst_l, tn0, lm0, fe0, implies_true, true_and, ↓reduceIte, dle_t, dlt_t, lm0, rv, encW, hb, Bool.not_true, fe0]
  refine round_exit (by omega) ?_
  show lpS0 [.i (a : Int), .i m, .i (v : Int), .l (f.map encI), x, y, .l (W.map encW)] = _
  simp only [lpS0, gz0, gs0, D.int_i, tn0, D.lst_l, map_dec decW_enc, map_dec dec_encI, e1, e2]
 | false =>
  have hbd := hB.bnd hb
  have hnx := hB.next hb
  obtain ⟨e1, e2, e3, _⟩ := hB.step1 hb f m a 0
  have rf := rowI (l := f) (i := (Wg W v).last.bound) hbd
  have hz : RoundOk F (R Lp35_0_0.key) (fun ρ => chainL ((ρ.getD 6 default).lst.map decW) (ρ.getD 6 default).lst.length (ρ.getD 2 default).int.toNat) Lp35_0_0 [.i (a : Int), .i m, .i (v : Int), .l (f.map encI), x, y, .l (W.map encW)]
    [.i (-1), .i ((Wg W v).fr : Int), .i (if (Wg W v).last.back then min m (f.getD (Wg W v).last.bound 0) else m), .i ((Wg W v).fr : Int)] := by
   refine round_next ⟨⟨N, B, f, S, W, r, _, _, _, x, y, rfl, hnx⟩, ?_, ?_⟩
   ·show chainL ((W.map encW).map decW) (W.map encW).length ((Wg W v).fr : Int).toNat < chainL ((W.map encW).map decW) (W.map encW).length (v : Int).toNat
    simp only [map_dec decW_enc, tn0, lm0]
    exact e3
   ·show lpS0 [.i ((Wg W v).fr : Int), .i (if (Wg W v).last.back then min m (f.getD (Wg W v).last.bound 0) else m), .i ((Wg W v).fr : Int), .l (f.map encI), x, y, .l (W.map encW)] = lpS0 [.i (a : Int), .i m, .i (v : Int), .l (f.map encI), x, y, .l (W.map encW)]
    simp only [lpS0, gz0, gs0, D.int_i, tn0, D.lst_l, map_dec decW_enc, map_dec dec_encI, e1, e2]
  cases hk : (Wg W v).last.back with
  | true =>
   rw [hk] at hz
   simp only [if_true] at hz
   simp (disch := omega) only [rtp35_0_0, VT.ok, Nd.holds, X.ds, X.d, Op1.ev, Op2.ev, gz0, gs0, D.int_i, D.bool_b, D.lst_l, imin, tn0, lm0, implies_true, true_and, ↓reduceIte, dle_t, dlt_t, lm0, rv, encW, hb, hk, rf, encI, Bool.not_false]
   exact hz
  | false =>
   rw [hk] at hz
   simp only [fe0, if_false] at hz
   simp (disch := omega) only [rtp35_0_0, VT.ok, Nd.holds, X.ds, X.d, Op1.ev, Op2.ev, gz0, gs0, D.int_i, D.bool_b, D.lst_l, tn0, lm0, fe0, implies_true, true_and, ↓reduceIte, dle_t, dlt_t, lm0, rv, encW, hb, hk, Bool.not_false, fe0]
   exact hz
end Go.Proofs.YtinaaabmmjpijaaDoor.rv
namespace Go.Proofs.YtinaaabmmjpijaaDoor.rv
set_option maxRecDepth 10000
open Go.RV Sx
theorem loopMp35_0_1 : LoopMeets Tryd.prog F (R Lp35_0_1.key) Lp35_0_1 lbp35_0_1 := by
 refine loop_meets (pre := R) mixed (sgAt_all (P := Tryd.prog) (pre := R) (Φ := F) (l := sgp35_0) ((fun _ h => nomatch h))) (loops_n 0 lkp35_0_1 fun k hk => by omega) Lp35_0_1 (fun ρ => chainL ((ρ.getD 5 default).lst.map decW) (ρ.getD 5 default).lst.length (ρ.getD 1 default).int.toNat) lep35_0_1 fun ρ _ hp => ?_
 obtain ⟨N, B, f, g, S, W, r, v, z, x, y, rfl, hB, hg, hz0, hz1, hbg⟩ : prS1 ρ := hp
 have hWl := hB.len
 have hv := hB.lt
 have hN := hB.val.hN
 have hrk := hB.rk v hB.at_
 have rv := rowW (W := W) (i := v) (by omega)
 cases hb : (Wg W v).beg with
 | true =>
  obtain ⟨_, e2, e1⟩ := hB.stop hb g 0 0 z
  simp (disch := omega) only [rtp35_0_1, VT.ok, Nd.holds, X.ds, X.d, Op1.ev, Op2.ev, gz0, gs0, D.int_i, D.bool_b, D.lst_l, tn0, lm0, fe0, implies_true, true_and, ↓reduceIte, dle_t, dlt_t, lm0, rv, encW, hb, Bool.not_true, fe0]
  refine round_exit (by omega) ?_
  show lpS1 [.i z, .i (v : Int), .l (g.map encI), x, y, .l (W.map encW)] = _
  simp only [lpS1, gz0, gs0, D.int_i, tn0, D.lst_l, map_dec decW_enc, map_dec dec_encI, e1, e2]
 | false =>
  have hbd := hB.bnd hb
  have hnx := hB.next hb
  have hdn := hB.dn v hB.at_ hb
  obtain ⟨_, e2, e3, e1⟩ := hB.step1 hb g 0 0 z
  have rf := rowI (l := g) (i := (Wg W v).last.bound) (by omega)
  have hbb := hbg (Wg W v).last.bound
  have hz : ∀ w : Int, w = g.getD (Wg W v).last.bound 0 + (if (Wg W v).last.back then -z else z) → RoundOk F (R Lp35_0_1.key) (fun ρ => chainL ((ρ.getD 5 default).lst.map decW) (ρ.getD 5 default).lst.length (ρ.getD 1 default).int.toNat) Lp35_0_1 [.i z, .i (v : Int), .l (g.map encI), x, y, .l (W.map encW)]
    [.i (-1), .i ((Wg W v).fr : Int), .l ((g.set (Wg W v).last.bound w).map encI)] := fun w hw => by
   subst hw
   refine round_next ⟨⟨N, B, f, _, S, W, r, _, z, x, y, rfl, hnx, by rw [List.length_set]; exact hg, hz0, hz1, fun i => ?_⟩, ?_, ?_⟩
   ·have := hbg i
    rw [getD_setI]
    split
    ·split <;> omega
    ·omega
   ·show chainL ((W.map encW).map decW) (W.map encW).length ((Wg W v).fr : Int).toNat < chainL ((W.map encW).map decW) (W.map encW).length (v : Int).toNat
    simp only [map_dec decW_enc, tn0, lm0]
    exact e3
   ·show lpS1 [.i z, .i ((Wg W v).fr : Int), .l ((g.set (Wg W v).last.bound (g.getD (Wg W v).last.bound 0 + (if (Wg W v).last.back then -z else z))).map encI), x, y, .l (W.map encW)] = lpS1 [.i z, .i (v : Int), .l (g.map encI), x, y, .l (W.map encW)]
    simp only [lpS1, gz0, gs0, D.int_i, tn0, D.lst_l, map_dec decW_enc, map_dec dec_encI, e1, e2]
  cases hk : (Wg W v).last.back with
  | true =>
   have hw := hz (g.getD (Wg W v).last.bound 0 - z) (by rw [hk]; simp only [if_true]; omega)
   have u := setI_map g (Wg W v).last.bound (g.getD (Wg W v).last.bound 0 - z) 0 (by omega)
   rw [rf] at u
   have ew : IntKind.i64.wrap (g.getD (Wg W v).last.bound 0 - z) = g.getD (Wg W v).last.bound 0 - z := w64 (by omega)
   simp only [encI] at u
   simp (disch := omega) only [rtp35_0_1, VT.ok, Nd.holds, X.ds, X.d, Op1.ev, Op2.ev, gz0, gs0, D.int_i, D.bool_b, D.lst_l, tn0, lm0, implies_true, true_and, ↓reduceIte, dle_t, dlt_t, lm0, rv, encW, hb, hk, rf, encI, ew, u, Bool.not_false]
   exact hw
  | false =>
   have hw := hz (g.getD (Wg W v).last.bound 0 + z) (by rw [hk]; simp only [fe0, if_false])
   have u := setI_map g (Wg W v).last.bound (g.getD (Wg W v).last.bound 0 + z) 0 (by omega)
   rw [rf] at u
   have ew : IntKind.i64.wrap (g.getD (Wg W v).last.bound 0 + z) = g.getD (Wg W v).last.bound 0 + z := w64 (by omega)
   simp only [encI] at u
   simp (disch := omega) only [rtp35_0_1, VT.ok, Nd.holds, X.ds, X.d, Op1.ev, Op2.ev, gz0, gs0, D.int_i, D.bool_b, D.lst_l, tn0, lm0, fe0, implies_true, true_and, ↓reduceIte, dle_t, dlt_t, lm0, rv, encW, hb, hk, rf, encI, ew, u, Bool.not_false, fe0]
   exact hw
end Go.Proofs.YtinaaabmmjpijaaDoor.rv
namespace Go.Proofs.YtinaaabmmjpijaaDoor.rv
set_option maxRecDepth 10000
open Go.RV Sx
theorem mp35_0 : ProcMeets Tryd.prog 76 Sp35_76 P35_0 5 (R P35_0.key) (F P35_0.key) := by
 refine proc_meets mixed (sgAt_all (P := Tryd.prog) (pre := R) (Φ := F) (l := sgp35_0) ((fun _ h => nomatch h))) Tryd.func76 bp35_0 np35_0 (loops_n 2 kp35_0 fun k hk => match k, hk with | 0, _ => loop_this lfp35_0_0 loopMp35_0_0 | 1, _ => loop_this lfp35_0_1 loopMp35_0_1) pe35_0 pp35_0 pl35_0 (by decide) fun ρ _ hp => ?_
 obtain ⟨N, B, f, needs, S, W, b, rfl, hV, hfl, hW, hnl, hS, hb, hnb, hbn, hbf⟩ : sdPre ρ := hp
 obtain ⟨r, hr1, hr2⟩ := hW.rank
 have hB : Back N B f S W r b := ⟨hV, hfl, hW, hr1, hr2, hb⟩
 have hbN := hB.lt
 have hN := hV.hN
 have hWl := hB.len
 have hrk : r b < W.length := by rw [hWl]; exact hr1 b hb
 obtain ⟨s1, s2, s3, _, s5, s6⟩ := walkMin_spec hV hW hr2 W.length b (needs.getD b 0) hb hrk hnb
 have hA : sendA W f needs b = endV W W.length b := s1
 have haS : sendA W f needs b ∈ S := by rw [hA]; exact (hW.bg _ s6).2
 have haN : sendA W f needs b < N := hW.lt (hW.st _ haS)
 have han := hS _ haS
 have hba := hbn (sendA W f needs b)
 have hbb := hbn b
 have hzd : sendZ W f needs b = min (walkMin W f W.length b (needs.getD b 0) b).1 (-(needs.getD (sendA W f needs b) 0)) := rfl
 have rb := rowI (l := needs) (i := b) (by omega)
 have ra := rowI (l := needs) (i := sendA W f needs b) (by omega)
 simp only [encI] at rb ra
 have hng : IntKind.i64.wrap (0 - needs.getD (sendA W f needs b) 0) = -(needs.getD (sendA W f needs b) 0) := by rw [w64 (by omega)]; omega
 have hp0 : prS0 [.i (b : Int), .i (needs.getD b 0), .i (b : Int), .l (f.map encI), .i (N : Int), .l (B.map encB), .l (W.map encW)] := ⟨N, B, f, S, W, r, b, b, _, _, _, rfl, hB⟩
 have hc0 : lpS0 [.i (b : Int), .i (needs.getD b 0), .i (b : Int), .l (f.map encI), .i (N : Int), .l (B.map encB), .l (W.map encW)] = [.i 0, .i (sendA W f needs b : Nat), .i (walkMin W f W.length b (needs.getD b 0) b).1, .i (endV W W.length b : Nat)] := by
  simp only [lpS0, gz0, gs0, D.int_i, tn0, D.lst_l, map_dec decW_enc, map_dec dec_encI]
  rfl
 have hp1 : prS1 [.i (sendZ W f needs b), .i (b : Int), .l (f.map encI), .i (N : Int), .l (B.map encB), .l (W.map encW)] := ⟨N, B, f, f, S, W, r, b, _, _, _, rfl, hB, rfl, by omega, by omega, fun i => by
  have := hbf i
  have := hr1 b hb
  omega⟩
 have hc1 : lpS1 [.i (sendZ W f needs b), .i (b : Int), .l (f.map encI), .i (N : Int), .l (B.map encB), .l (W.map encW)] = [.i 0, .i (endV W W.length b : Nat), .l ((sendF W f needs b).map encI)] := by
  simp only [lpS1, gz0, gs0, D.int_i, tn0, D.lst_l, map_dec decW_enc, map_dec dec_encI]
  rfl
 have hout : sdD [.l (f.map encI), .i (N : Int), .l (B.map encB), .l (needs.map encI), .l (W.map encW), .i (b : Int)] = [.i 0, .l ((sendF W f needs b).map encI), .i (sendA W f needs b : Nat), .i (sendZ W f needs b)] := by
  simp only [sdD, gz0, gs0, D.int_i, tn0, D.lst_l, map_dec decW_enc, map_dec dec_encI]
 rw [show F P35_0.key = sdD from rfl, hout]
 simp (disch := omega) only [pv35_0, VT.ok, Nd.holds, X.outs, X.ds, X.d, Op1.ev, Op2.ev, takeD_zero, takeD_cons, List.cons_append, List.nil_append, gz0, gs0, D.int_i, D.bool_b, D.lst_l, imin, tn0, lm0, implies_true, true_and, F17650, R17650, F17651, R17651, dle_t, dlt_t, lm0, rb, hc0, ra, hng]
 rw [← hzd]
 refine ⟨fun _ => hp0, fun _ => hp1, ?_⟩
 rw [hc1]; rfl
end Go.Proofs.YtinaaabmmjpijaaDoor.rv
namespace Go.Proofs.YtinaaabmmjpijaaDoor.rv
set_option maxRecDepth 10000
open Go.RV Sx
theorem loopMp35_1_1 : LoopMeets Tryd.prog F (R Lp35_1_1.key) Lp35_1_1 lbp35_1_1 := by
 refine loop_meets (pre := R) mixed (sgAt_all (P := Tryd.prog) (pre := R) (Φ := F) (l := sgp35_1) (fcm ⟨m75, fcm ⟨m55, List.forall_mem_cons.2 ⟨ProcMeets.at1 mp35_0, List.forall_mem_cons.2 ⟨MeetsAt.name, (fun _ h => nomatch h)⟩⟩⟩⟩)) (loops_n 0 lkp35_1_1 fun k hk => by omega) Lp35_1_1 (fun ρ => ((ρ.getD 0 default).int - (ρ.getD 1 default).int).toNat) lep35_1_1 fun ρ _ hp => ?_
 obtain ⟨N, i, needs, S, rfl, hi, hN, hnl, hS⟩ : prCs ρ := hp
 by_cases hlt : i < N
 ·have rn := rowI (l := needs) (i := i) (by omega)
  have hz : ∀ S', S ++ negAt needs i = S' → RoundOk F (R Lp35_1_1.key) (fun ρ => ((ρ.getD 0 default).int - (ρ.getD 1 default).int).toNat) Lp35_1_1 [.i (N : Int), .i (i : Int), .l (needs.map encI), .l (S.map encN)] [.i (-1), .i ((i + 1 : Nat) : Int), .l (S'.map encN)] := fun S' h => by
   subst h
   refine round_next ⟨⟨N, i + 1, needs, _, rfl, by omega, hN, hnl, by rw [List.length_append]; unfold negAt; split <;> simp <;> omega⟩, ?_, ?_⟩
   ·show ((N : Int) - ((i + 1 : Nat) : Int)).toNat < ((N : Int) - (i : Int)).toNat
    omega
   ·show lpCs [.i (N : Int), .i ((i + 1 : Nat) : Int), .l (needs.map encI), .l ((S ++ negAt needs i).map encN)] = lpCs [.i (N : Int), .i (i : Int), .l (needs.map encI), .l (S.map encN)]
    simp only [lpCs, gz0, gs0, D.int_i, tn0, D.lst_l, map_dec dec_encI, map_dec decN_enc]
    rw [coll_next (f := negAt needs) hlt S]
  simp only [encI] at rn
  by_cases hc : needs.getD i 0 < 0
  ·have hw := hz (S ++ [i]) (by rw [negAt, if_pos hc])
   simp (disch := omega) only [rtp35_1_1, VT.ok, Nd.holds, X.ds, X.d, Op1.ev, Op2.ev, gz0, gs0, D.int_i, D.bool_b, D.lst_l, tn0, lm0, implies_true, true_and, ↓reduceIte, dle_t, dlt_t, w64', lm0, rn, snocN, List.length_append, List.length_singleton]
   exact hw
  ·have hw := hz S (by rw [negAt, if_neg hc, List.append_nil])
   simp (disch := omega) only [rtp35_1_1, VT.ok, Nd.holds, X.ds, X.d, Op1.ev, Op2.ev, gz0, gs0, D.int_i, D.bool_b, D.lst_l, tn0, lm0, fe0, implies_true, true_and, ↓reduceIte, dle_t, dlt_t, dlt_f, w64', lm0, rn]
   exact hw
 ·have hj : i = N := by omega
  subst hj
  simp (disch := omega) only [rtp35_1_1, VT.ok, X.ds, X.d, Op2.ev, gz0, gs0, D.int_i, D.bool_b, fe0, ↓reduceIte, dlt_f]
  refine round_exit (by omega) ?_
  show lpCs [.i (i : Int), .i (i : Int), .l (needs.map encI), .l (S.map encN)] = _
  simp only [lpCs, gz0, gs0, D.int_i, tn0, D.lst_l, map_dec dec_encI, map_dec decN_enc, coll_end]
theorem loopMp35_1_2 : LoopMeets Tryd.prog F (R Lp35_1_2.key) Lp35_1_2 lbp35_1_2 := by
 refine loop_meets (pre := R) mixed (sgAt_all (P := Tryd.prog) (pre := R) (Φ := F) (l := sgp35_1) (fcm ⟨m75, fcm ⟨m55, List.forall_mem_cons.2 ⟨ProcMeets.at1 mp35_0, List.forall_mem_cons.2 ⟨MeetsAt.name, (fun _ h => nomatch h)⟩⟩⟩⟩)) (loops_n 0 lkp35_1_2 fun k hk => by omega) Lp35_1_2 (fun ρ => ((ρ.getD 1 default).int - (ρ.getD 2 default).int).toNat) lep35_1_2 fun ρ _ hp => ?_
 obtain ⟨N, i, b, needs, W, rfl, hi, hN, hnl, hWl, hb0, hb1⟩ : prCb ρ := hp
 by_cases hlt : i < N
 ·have rn := rowI (l := needs) (i := i) (by omega)
  have rw1 := rowW (W := W) (i := i) (by omega)
  have hz : ∀ b', bestAt needs W i b = b' → RoundOk F (R Lp35_1_2.key) (fun ρ => ((ρ.getD 1 default).int - (ρ.getD 2 default).int).toNat) Lp35_1_2 [.i b, .i (N : Int), .i (i : Int), .l (needs.map encI), .l (W.map encW)] [.i (-1), .i b', .i ((i + 1 : Nat) : Int)] := fun b' h => by
   subst h
   refine round_next ⟨⟨N, i + 1, _, needs, W, rfl, by omega, hN, hnl, hWl, by unfold bestAt; split <;> omega, by unfold bestAt; split <;> omega⟩, ?_, ?_⟩
   ·show ((N : Int) - ((i + 1 : Nat) : Int)).toNat < ((N : Int) - (i : Int)).toNat
    omega
   ·show lpCb [.i (bestAt needs W i b), .i (N : Int), .i ((i + 1 : Nat) : Int), .l (needs.map encI), .l (W.map encW)] = lpCb [.i b, .i (N : Int), .i (i : Int), .l (needs.map encI), .l (W.map encW)]
    simp only [lpCb, gz0, gs0, D.int_i, tn0, D.lst_l, map_dec dec_encI, map_dec decW_enc]
    rw [fold_next (f := bestAt needs W) hlt]
  simp only [encI] at rn
  by_cases h1 : 0 < needs.getD i 0
  ·by_cases h2 : -576460752303423488 < (Wg W i).long
   ·by_cases h3 : b < 0
    ·have hw := hz i (by rw [bestAt, if_pos ⟨h1, h2, .inl h3⟩])
     simp (disch := omega) only [rtp35_1_2, VT.ok, Nd.holds, X.ds, X.d, Op1.ev, Op2.ev, gz0, gs0, D.int_i, D.bool_b, D.lst_l, tn0, lm0, fe0, implies_true, true_and, ↓reduceIte, dle_t, dle_f, dlt_t, w64', lm0, rn, rw1, encW, hnl, hWl]
     exact ⟨fun h => by simp at h, hw⟩
    ·have rwb := rowW (W := W) (i := b.toNat) (by omega)
     by_cases h4 : (Wg W b.toNat).long < (Wg W i).long
     ·have hw := hz i (by rw [bestAt, if_pos ⟨h1, h2, .inr h4⟩])
      simp (disch := omega) only [rtp35_1_2, VT.ok, Nd.holds, X.ds, X.d, Op1.ev, Op2.ev, gz0, gs0, D.int_i, D.bool_b, D.lst_l, tn0, lm0, fe0, implies_true, true_and, ↓reduceIte, dle_t, dlt_t, dlt_f, w64', lm0, rn, rw1, encW, hnl, hWl, rwb]
      exact hw
     ·have hw := hz b (by rw [bestAt, if_neg (fun h => h.2.2.elim h3 h4)])
      simp (disch := omega) only [rtp35_1_2, VT.ok, Nd.holds, X.ds, X.d, Op1.ev, Op2.ev, gz0, gs0, D.int_i, D.bool_b, D.lst_l, tn0, lm0, fe0, implies_true, true_and, ↓reduceIte, dle_t, dlt_t, dlt_f, w64', lm0, rn, rw1, encW, hnl, hWl, rwb]
      exact hw
   ·have hw := hz b (by rw [bestAt, if_neg (fun h => h2 h.2.1)])
    simp (disch := omega) only [rtp35_1_2, VT.ok, Nd.holds, X.ds, X.d, Op1.ev, Op2.ev, gz0, gs0, D.int_i, D.bool_b, D.lst_l, tn0, lm0, fe0, implies_true, true_and, false_implies, ↓reduceIte, dle_t, dlt_t, dlt_f, w64', lm0, rn, rw1, encW, hnl, hWl]
    exact hw
  ·have hw := hz b (by rw [bestAt, if_neg (fun h => h1 h.1)])
   simp (disch := omega) only [rtp35_1_2, VT.ok, Nd.holds, X.ds, X.d, Op1.ev, Op2.ev, gz0, gs0, D.int_i, D.bool_b, D.lst_l, tn0, lm0, fe0, implies_true, true_and, false_implies, ↓reduceIte, dle_t, dlt_t, dlt_f, w64', lm0, rn, hnl, hWl]
   exact hw
 ·have hj : i = N := by omega
  subst hj
  simp (disch := omega) only [rtp35_1_2, VT.ok, X.ds, X.d, Op2.ev, gz0, gs0, D.int_i, D.bool_b, fe0, ↓reduceIte, dlt_f]
  refine round_exit (by omega) ?_
  show lpCb [.i b, .i (i : Int), .i (i : Int), .l (needs.map encI), .l (W.map encW)] = _
  simp only [lpCb, gz0, gs0, D.int_i, tn0, D.lst_l, map_dec dec_encI, map_dec decW_enc, fold_end]
end Go.Proofs.YtinaaabmmjpijaaDoor.rv
namespace Go.Proofs.YtinaaabmmjpijaaDoor.rv
set_option maxRecDepth 10000
open Go.RV Sx
theorem mem_negs {N : Nat} {needs : List Int} {v : Nat} : v ∈ negs N needs ↔ v < N ∧ needs.getD v 0 < 0 := by
 unfold negs collN
 rw [List.drop_zero, List.mem_flatMap]
 constructor
 ·rintro ⟨i, hi, hv⟩
  unfold negAt at hv
  split at hv
  ·rename_i h
   simp only [List.mem_singleton] at hv
   subst hv
   exact ⟨List.mem_range.1 hi, h⟩
  ·simp at hv
 ·rintro ⟨h1, h2⟩
  exact ⟨v, List.mem_range.2 h1, by rw [negAt, if_pos h2]; simp⟩
theorem negs_len {N : Nat} {needs : List Int} : (negs N needs).length ≤ N := by
 have := coll_len (f := negAt needs) (n := N) (i := 0) (m := 1) (fun i => by unfold negAt; split <;> simp)
 unfold negs
 omega
theorem best_spec {N : Nat} {needs : List Int} {W : List Wy} : ∀ (m i : Nat) (b : Int), N - i = m → i ≤ N → (b = -1 ∨ (0 ≤ b ∧ b < N ∧ 0 < needs.getD b.toNat 0 ∧ -576460752303423488 < (Wg W b.toNat).long)) →
  (foldN (bestAt needs W) N i b = -1 ∨ (0 ≤ foldN (bestAt needs W) N i b ∧ foldN (bestAt needs W) N i b < N ∧ 0 < needs.getD (foldN (bestAt needs W) N i b).toNat 0 ∧ -576460752303423488 < (Wg W (foldN (bestAt needs W) N i b).toNat).long)) ∧
  ((0 ≤ b ∨ ∃ j, i ≤ j ∧ j < N ∧ 0 < needs.getD j 0 ∧ -576460752303423488 < (Wg W j).long) → 0 ≤ foldN (bestAt needs W) N i b)
 | 0, i, b, hm, hi, hb => by
  have : i = N := by omega
  subst this
  rw [fold_end]
  refine ⟨hb, fun h => ?_⟩
  rcases h with h | ⟨j, h1, h2, _⟩
  ·exact h
  ·omega
 | m + 1, i, b, hm, hi, hb => by
  have hlt : i < N := by omega
  rw [fold_next hlt]
  have hstep : (bestAt needs W i b = (i : Int) ∧ 0 < needs.getD i 0 ∧ -576460752303423488 < (Wg W i).long) ∨ (bestAt needs W i b = b ∧ ¬ (0 < needs.getD i 0 ∧ -576460752303423488 < (Wg W i).long ∧ (b < 0 ∨ (Wg W b.toNat).long < (Wg W i).long))) := by
   unfold bestAt
   split
   ·rename_i h; exact .inl ⟨rfl, h.1, h.2.1⟩
   ·rename_i h; exact .inr ⟨rfl, h⟩
  rcases hstep with ⟨e, h1, h2⟩ | ⟨e, hno⟩
  ·rw [e]
   obtain ⟨i1, i2⟩ := best_spec (N := N) (needs := needs) (W := W) m (i + 1) (i : Int) (by omega) (by omega) (.inr ⟨by omega, by omega, by simpa using h1, by simpa using h2⟩)
   exact ⟨i1, fun _ => i2 (.inl (by omega))⟩
  ·rw [e]
   obtain ⟨i1, i2⟩ := best_spec (N := N) (needs := needs) (W := W) m (i + 1) b (by omega) (by omega) hb
   refine ⟨i1, fun h => i2 ?_⟩
   rcases h with h | ⟨j, h1, h2, h3, h4⟩
   ·exact .inl h
   ·by_cases hj : j = i
    ·subst hj
     by_cases hb0 : b < 0
     ·exact absurd ⟨h3, h4, .inl hb0⟩ hno
     ·exact .inl (by omega)
    ·exact .inr ⟨j, by omega, h2, h3, h4⟩
theorem turn_spec {N : Nat} {B : List Bd} {f needs : List Int} {P0 : Int} (hV : Valid N B) (h : CI N B P0 f needs) (hne : negs N needs ≠ []) :
  0 ≤ foldN (bestAt needs (longW N B f (negs N needs))) N 0 (-1) ∧ foldN (bestAt needs (longW N B f (negs N needs))) N 0 (-1) < N ∧ reached (longW N B f (negs N needs)) (bestV N needs (longW N B f (negs N needs))) ∧ 0 < needs.getD (bestV N needs (longW N B f (negs N needs))) 0 ∧
  Fin N (stepsOf N B f) (negs N needs) (longW N B f (negs N needs)) := by
 obtain ⟨p, hp⟩ := h.pot
 have hS : ∀ v ∈ negs N needs, v < N := fun v hv => (mem_negs.1 hv).1
 have hF := (longW_fin hV hp hS).2
 obtain ⟨v, hv1, hv2⟩ := h.to hV hF (fun v hv => (mem_negs.1 hv).2) hne
 have hvl := hF.bd v hv1
 obtain ⟨b1, b2⟩ := best_spec (needs := needs) (W := longW N B f (negs N needs)) N 0 (-1) rfl (Nat.zero_le _) (.inl rfl)
 have h0 := b2 (.inr ⟨v, Nat.zero_le _, hF.lt hv1, hv2, by omega⟩)
 unfold bestV
 generalize foldN (bestAt needs (longW N B f (negs N needs))) N 0 (-1) = b at *
 rcases b1 with e | ⟨c1, c2, c3, c4⟩
 ·omega
 ·refine ⟨c1, c2, fun hno => ?_, c3, hF⟩
  rw [hno] at c4
  unfold noW at c4
  omega
end Go.Proofs.YtinaaabmmjpijaaDoor.rv
namespace Go.Proofs.YtinaaabmmjpijaaDoor.rv
set_option maxRecDepth 10000
open Go.RV Sx
theorem raise_bd {needs : List Int} {a b : Nat} {z : Int} {N : Nat} (hl : needs.length = N) (ha : a < N) (hb : b < N) (hne : a ≠ b) (hz0 : 0 ≤ z) (h1 : z ≤ needs.getD b 0) (h2 : z ≤ -(needs.getD a 0)) (h : ∀ v, -1000000000000 ≤ needs.getD v 0 ∧ needs.getD v 0 ≤ 1000000000000) (v : Nat) : -1000000000000 ≤ (raise needs a b z).getD v 0 ∧ (raise needs a b z).getD v 0 ≤ 1000000000000 := by
 rw [raise_get (by omega) (by omega) hne]
 have hv := h v
 have hbv := h b
 have hav := h a
 unfold pt
 by_cases e1 : b = v
 ·subst e1; simp only [if_true, if_neg hne]; omega
 ·by_cases e2 : a = v
  ·subst e2; simp only [if_true, if_neg e1]; omega
  ·simp only [if_neg e1, if_neg e2]; omega
theorem posS_nn (N : Nat) (needs : List Int) : 0 ≤ posS N needs := Int.le_trans (Int.le_of_eq (sumN_zero N).symm) (sumN_le fun v _ => by omega)
theorem certQ_eq (N : Nat) (B : List Bd) (k : Nat) (z : List Int × List Int) : certQ N B (k + 1) z = if (negs N z.2).isEmpty then z else certQ N B k (certT N B z) := rfl
theorem turn_ok {N : Nat} {B : List Bd} {P0 : Int} (hV : Valid N B) {z : List Int × List Int} (h : CI N B P0 z.1 z.2) (hne : negs N z.2 ≠ []) : CI N B P0 (certT N B z).1 (certT N B z).2 ∧ posS N (certT N B z).2 < posS N z.2 := by
 obtain ⟨_, _, t3, t4, hF⟩ := turn_spec hV h hne
 obtain ⟨n1, n2, _⟩ := h.next hV hF (fun v hv => (mem_negs.1 hv).2) t3 t4
 exact ⟨n1, n2⟩
theorem certQ_step {N : Nat} {B : List Bd} {P0 : Int} (hV : Valid N B) : ∀ (k : Nat) (z : List Int × List Int), CI N B P0 z.1 z.2 → posS N z.2 < k → certQ N B (k + 1) z = certQ N B k z
 | 0, z, _, h => by have := posS_nn N z.2; omega
 | k + 1, z, hC, h => by
  rw [certQ_eq N B (k + 1) z, certQ_eq N B k z]
  cases e : negs N z.2 with
  | nil => rfl
  | cons a l =>
   obtain ⟨h1, h2⟩ := turn_ok hV hC (by rw [e]; simp)
   simp only [List.isEmpty_cons, fe0, if_false]
   exact certQ_step hV k _ h1 (by omega)
theorem certQ_more {N : Nat} {B : List Bd} {P0 : Int} (hV : Valid N B) : ∀ (d k : Nat) (z : List Int × List Int), CI N B P0 z.1 z.2 → posS N z.2 < k → certQ N B k z = certQ N B (k + d) z
 | 0, k, z, _, _ => rfl
 | d + 1, k, z, hC, h => by
  rw [certQ_more hV d k z hC h, ← Nat.add_assoc, certQ_step hV (k + d) z hC (by omega)]
theorem loopMp35_1_0 : LoopMeets Tryd.prog F (R Lp35_1_0.key) Lp35_1_0 lbp35_1_0 := by
 refine loop_meets (pre := R) mixed (sgAt_all (P := Tryd.prog) (pre := R) (Φ := F) (l := sgp35_1) (fcm ⟨m75, fcm ⟨m55, List.forall_mem_cons.2 ⟨ProcMeets.at1 mp35_0, List.forall_mem_cons.2 ⟨MeetsAt.name, (fun _ h => nomatch h)⟩⟩⟩⟩)) (loops_n 2 lkp35_1_0 fun k hk => match k, hk with | 0, _ => by rw [lip35_1_0_0]; exact loop_this lfp35_1_1 loopMp35_1_1 | 1, _ => by rw [lip35_1_0_1]; exact loop_this lfp35_1_2 loopMp35_1_2) Lp35_1_0 (fun ρ => (posS (ρ.getD 1 default).int.toNat ((ρ.getD 3 default).lst.map decI)).toNat) lep35_1_0 fun ρ _ hp => ?_
 obtain ⟨N, B, f, needs, P0, rfl, hV, hC, hP, hbn⟩ : prCt ρ := hp
 have hN := hV.hN
 have hnl := hC.nl
 have hp1 : prCs [.i (N : Int), .i 0, .l (needs.map encI), .l []] := ⟨N, 0, needs, [], rfl, Nat.zero_le _, hN, hnl, Nat.le_refl _⟩
 have hc1 : lpCs [.i (N : Int), .i 0, .l (needs.map encI), .l []] = [.i 0, .i (N : Int), .l ((negs N needs).map encN)] := by
  simp only [lpCs, gz0, gs0, D.int_i, tn0, Int.toNat_zero, D.lst_l, map_dec dec_encI, List.map_nil, List.nil_append]
  rfl
 by_cases hne : negs N needs = []
 ·simp (disch := omega) only [rtp35_1_0, VT.ok, Nd.holds, X.outs, X.ds, X.d, Op1.ev, Op2.ev, takeD_zero, takeD_cons, List.cons_append, List.nil_append, gz0, gs0, D.int_i, D.bool_b, D.lst_l, lm0, F15750, R15750, ↓reduceIte, beq_t, lm0, hnl, hc1, hne, List.map_nil, List.length_nil]
  refine ⟨fun _ => hp1, round_exit (by omega) ?_⟩
  show lpCt [.l (f.map encI), .i (N : Int), .l (B.map encB), .l (needs.map encI)] = _
  simp only [lpCt, gz0, gs0, D.int_i, tn0, D.lst_l, map_dec dec_encI, map_dec decB_enc, certQ, hne, List.isEmpty_nil, if_true]
 ·obtain ⟨t1, t2, t3, t4, hF⟩ := turn_spec hV hC hne
  obtain ⟨p, hp⟩ := hC.pot
  have hS : ∀ v ∈ negs N needs, needs.getD v 0 < 0 := fun v hv => (mem_negs.1 hv).2
  have hSl := negs_len (N := N) (needs := needs)
  have hpos : 0 < (negs N needs).length := List.length_pos_iff.2 hne
  obtain ⟨W, hW⟩ : ∃ W, W = longW N B f (negs N needs) := ⟨_, rfl⟩
  have hp2 : longPre [.p [.i (N : Int), .l (B.map encB), .l (f.map encI)], .l ((negs N needs).map encN)] := ⟨N, B, f, negs N needs, p, rfl, hV, hC.fl, hp, hSl, fun v hv => (mem_negs.1 hv).1⟩
  have hc2 : longD [.p [.i (N : Int), .l (B.map encB), .l (f.map encI)], .l ((negs N needs).map encN)] = [.l (W.map encW), .b true] := by
   simp only [longD, gz0, gs0, D.ptd_p, D.int_i, tn0, D.lst_l, map_dec decB_enc, map_dec dec_encI, map_dec decN_enc, hW]
  rw [← hW] at t1 t2 t3 t4 hF
  have hWl := hF.len
  obtain ⟨b, hb⟩ : ∃ b, b = bestV N needs W := ⟨_, rfl⟩
  have hbi : foldN (bestAt needs W) N 0 (-1) = (b : Int) := by rw [hb]; unfold bestV; omega
  rw [hbi] at t1 t2
  rw [← hb] at t3 t4
  have hp3 : prCb [.i (-1), .i (N : Int), .i 0, .l (needs.map encI), .l (W.map encW)] := ⟨N, 0, -1, needs, W, rfl, Nat.zero_le _, hN, hnl, hWl, by omega, by omega⟩
  have hc3 : lpCb [.i (-1), .i (N : Int), .i 0, .l (needs.map encI), .l (W.map encW)] = [.i 0, .i (b : Int), .i (N : Int)] := by
   simp only [lpCb, gz0, gs0, D.int_i, tn0, Int.toNat_zero, D.lst_l, map_dec dec_encI, map_dec decW_enc, hbi]
  have hfb : ∀ i, 0 ≤ f.getD i 0 ∧ f.getD i 0 ≤ 1000000000000 := fun i => ⟨hC.f0 i, by
   have h1 := hC.bd i
   have h2 : (0 : Int) ≤ sumN N (fun v => max (needs.getD v 0) 0) := posS_nn N needs
   omega⟩
  have hp4 : sdPre [.l (f.map encI), .i (N : Int), .l (B.map encB), .l (needs.map encI), .l (W.map encW), .i (b : Int)] := ⟨N, B, f, needs, negs N needs, W, b, rfl, hV, hC.fl, hF, hnl, hS, t3, t4, hbn, hfb⟩
  obtain ⟨s1, s2, s3, s4, _⟩ := send_spec hV hF hC.fl hC.f0 hS t3 t4
  obtain ⟨n1, n2, n3⟩ := hC.next hV hF hS t3 t4
  have hc4 : sdD [.l (f.map encI), .i (N : Int), .l (B.map encB), .l (needs.map encI), .l (W.map encW), .i (b : Int)] = [.i 0, .l ((sendF W f needs b).map encI), .i (sendA W f needs b : Nat), .i (sendZ W f needs b)] := by
   simp only [sdD, gz0, gs0, D.int_i, tn0, D.lst_l, map_dec decW_enc, map_dec dec_encI]
  have hT : certT N B (f, needs) = (sendF W f needs b, raise needs (sendA W f needs b) b (sendZ W f needs b)) := by
   simp only [certT, ← hW, ← hb]
  have hneg := hS _ s1
  generalize sendA W f needs b = a at *
  generalize sendZ W f needs b = z at *
  generalize sendF W f needs b = g at *
  have hne2 : a ≠ b := by rintro rfl; omega
  have hab := hbn a
  have hbb := hbn b
  have e1 : IntKind.i64.wrap (needs.getD a 0 + z) = needs.getD a 0 + z := w64 (by omega)
  obtain ⟨n', hn'⟩ : ∃ n', n' = needs.set a (needs.getD a 0 + z) := ⟨_, rfl⟩
  have hnl' : n'.length = N := by rw [hn', List.length_set]; exact hnl
  have hgb : n'.getD b 0 = needs.getD b 0 := by rw [hn', getD_setI, if_neg (fun e => hne2 e.1.symm)]
  have e2 : IntKind.i64.wrap (n'.getD b 0 - z) = n'.getD b 0 - z := w64 (by rw [hgb]; omega)
  have u1 := setI_map needs a (needs.getD a 0 + z) 0 (by omega)
  have u2 := setI_map n' b (n'.getD b 0 - z) 0 (by omega)
  have r1 : (needs.map encI).getD a [] = [D.i (needs.getD a 0)] := rowI (by omega)
  have r2 : (n'.map encI).getD b [] = [D.i (n'.getD b 0)] := rowI (by omega)
  rw [r1, ← hn'] at u1
  rw [r2] at u2
  have hra : raise needs a b z = n'.set b (n'.getD b 0 - z) := by rw [hn']; rfl
  have hz : RoundOk F (R Lp35_1_0.key) (fun ρ => (posS (ρ.getD 1 default).int.toNat ((ρ.getD 3 default).lst.map decI)).toNat) Lp35_1_0 [.l (f.map encI), .i (N : Int), .l (B.map encB), .l (needs.map encI)] [.i (-1), .l (g.map encI), .l ((raise needs a b z).map encI)] := by
   have h0 := posS_nn N (raise needs a b z)
   have hlt : posS N (raise needs a b z) < posS N needs := n2
   refine round_next ⟨⟨N, B, g, raise needs a b z, P0, rfl, hV, n1, hP, raise_bd hnl n3 (by omega) hne2 (by omega) s3 s4 hbn⟩, ?_, ?_⟩
   ·show (posS (N : Int).toNat (((raise needs a b z).map encI).map decI)).toNat < (posS (N : Int).toNat ((needs.map encI).map decI)).toNat
    simp only [tn0, map_dec dec_encI]
    omega
   ·show lpCt [.l (g.map encI), .i (N : Int), .l (B.map encB), .l ((raise needs a b z).map encI)] = lpCt [.l (f.map encI), .i (N : Int), .l (B.map encB), .l (needs.map encI)]
    simp only [lpCt, gz0, gs0, D.int_i, tn0, D.lst_l, map_dec dec_encI, map_dec decB_enc]
    have e0 : (negs N needs).isEmpty = false := by cases h : negs N needs <;> simp_all
    have e1 : certQ N B ((posS N needs).toNat + 1) (f, needs) = certQ N B (posS N needs).toNat (g, raise needs a b z) := by
     rw [certQ_eq, e0, hT]; rfl
    have e3 : (posS N (raise needs a b z)).toNat + 1 + ((posS N needs).toNat - ((posS N (raise needs a b z)).toNat + 1)) = (posS N needs).toNat := by omega
    rw [e1, certQ_more hV (P0 := P0) ((posS N needs).toNat - ((posS N (raise needs a b z)).toNat + 1)) ((posS N (raise needs a b z)).toNat + 1) (g, raise needs a b z) n1 (by simp only; omega), e3]
  rw [hra] at hz
  simp (disch := omega) only [rtp35_1_0, VT.ok, Nd.holds, X.outs, X.ds, X.d, Op1.ev, Op2.ev, takeD_zero, takeD_cons, List.cons_append, List.nil_append, gz0, gs0, D.int_i, D.bool_b, D.lst_l, tn0, lm0, fe0, implies_true, true_and, F55, R55, F64076000, R64076000, F15750, R15750, F15751, R15751, ↓reduceIte, dle_t, dlt_t, beq_f, lm0, hnl, hc1, hc2, hc3, hc4, r1, e1, u1, hnl', r2, e2, u2]
  exact ⟨fun _ => hp1, fun _ => hp2, fun _ => hp3, fun _ => hp4, hz⟩
end Go.Proofs.YtinaaabmmjpijaaDoor.rv
namespace Go.Proofs.YtinaaabmmjpijaaDoor.rv
set_option maxRecDepth 10000
open Go.RV Sx
theorem need_bd : ∀ (B : List Bd) (v : Nat), (∀ b ∈ B, 0 ≤ b.w ∧ b.w ≤ 8000) → -(8000 * (B.length : Int)) ≤ needF B (List.replicate B.length 0) v ∧ needF B (List.replicate B.length 0) v ≤ 8000 * (B.length : Int)
 | [], v, _ => by simp [needF]
 | b :: B, v, h => by
  obtain ⟨h1, h2⟩ := h b List.mem_cons_self
  have ih := need_bd B v fun b hb => h b (List.mem_cons_of_mem _ hb)
  simp only [List.length_cons, List.replicate_succ, needF, List.headD_cons, List.tail_cons]
  unfold pt
  split <;> split <;> omega
theorem sumN_const (n : Nat) (c : Int) : sumN n (fun _ => c) = n * c := by induction n with
 | zero => simp [sumN]
 | succ n ih => simp only [sumN, ih, Int.natCast_add, Int.add_mul]; omega
theorem CI.start {N : Nat} {B : List Bd} {p : Nat → Int} (hV : Valid N B) (hp : Pot B (List.replicate B.length 0) p) : CI N B 1000000000000 (List.replicate B.length 0) (needL B (List.replicate N 0)) ∧ ∀ v, -1000000000000 ≤ (needL B (List.replicate N 0)).getD v 0 ∧ (needL B (List.replicate N 0)).getD v 0 ≤ 1000000000000 := by
 have hlen : (needL B (List.replicate N 0)).length = N := by rw [needL_len]; simp
 have hg : ∀ v, v < N → (needL B (List.replicate N 0)).getD v 0 = needF B (List.replicate B.length 0) v := fun v hv => by
  rw [needL_get B _ (fun b hb => ⟨(hV.ok b hb).1, (hV.ok b hb).2.1, (hV.ok b hb).2.2.1⟩) (by simp) v hv, List.getD_eq_getElem?_getD, List.getElem?_replicate, if_pos hv]
  simp
 have hB := hV.hB
 have hN := hV.hN
 have hbd : ∀ v, -33000000 ≤ (needL B (List.replicate N 0)).getD v 0 ∧ (needL B (List.replicate N 0)).getD v 0 ≤ 33000000 := fun v => by
  by_cases hv : v < N
  ·rw [hg v hv]
   have := need_bd B v fun b hb => ⟨(hV.ok b hb).2.2.2.2.2.1, (hV.ok b hb).2.2.2.2.2.2⟩
   omega
  ·rw [List.getD_eq_getElem?_getD, List.getElem?_eq_none (by omega)]; simp
 have h0 : ∀ i, (List.replicate B.length (0 : Int)).getD i 0 = 0 := fun i => by
  rw [List.getD_eq_getElem?_getD, List.getElem?_replicate]; split <;> rfl
 have hs : sumN N (fun v => max ((needL B (List.replicate N 0)).getD v 0) 0) ≤ N * 33000000 := by
  rw [← sumN_const]
  exact sumN_le fun v _ => by have := hbd v; omega
 refine ⟨⟨by simp, hlen, hg, fun i => by rw [h0 i]; exact Int.le_refl _, ⟨p, hp⟩, fun i => by rw [h0 i]; omega⟩, fun v => by have := hbd v; omega⟩
theorem mp35_1 : ProcMeets Tryd.prog 57 Sp35_57 P35_1 3 (R P35_1.key) (F P35_1.key) := by
 refine proc_meets mixed (sgAt_all (P := Tryd.prog) (pre := R) (Φ := F) (l := sgp35_1) (fcm ⟨m75, fcm ⟨m55, List.forall_mem_cons.2 ⟨ProcMeets.at1 mp35_0, List.forall_mem_cons.2 ⟨MeetsAt.name, (fun _ h => nomatch h)⟩⟩⟩⟩)) Tryd.func57 bp35_1 np35_1 (loops_n 3 kp35_1 fun k hk => match k, hk with | 0, _ => loop_this lfp35_1_0 loopMp35_1_0 | 1, _ => loop_this lfp35_1_1 loopMp35_1_1 | 2, _ => loop_this lfp35_1_2 loopMp35_1_2) pe35_1 pp35_1 pl35_1 (by decide) fun ρ _ hp => ?_
 obtain ⟨N, B, p, rfl, hV, hP⟩ : cfPre ρ := hp
 obtain ⟨hC, hbn⟩ := CI.start hV hP
 have hp1 : stepsPre [.p [.i (N : Int), .l (B.map encB), .l ((List.replicate B.length (0 : Int)).map encI)]] := ⟨N, B, _, rfl, hV, by simp⟩
 have hc1 : needD [.p [.i (N : Int), .l (B.map encB), .l ((List.replicate B.length (0 : Int)).map encI)]] = [.l ((needL B (List.replicate N 0)).map encI)] := by
  simp only [needD, gz0, gs0, D.ptd_p, D.int_i, D.lst_l, tn0, map_dec decB_enc]
 have hp2 : prCt [.l ((List.replicate B.length (0 : Int)).map encI), .i (N : Int), .l (B.map encB), .l ((needL B (List.replicate N 0)).map encI)] := ⟨N, B, _, _, _, rfl, hV, hC, Int.le_refl _, hbn⟩
 have hc2 : lpCt [.l ((List.replicate B.length (0 : Int)).map encI), .i (N : Int), .l (B.map encB), .l ((needL B (List.replicate N 0)).map encI)] = [.i 0, .l ((cert N B).1.map encI), .l ((cert N B).2.map encI)] := by
  simp only [lpCt, gz0, gs0, D.int_i, tn0, D.lst_l, map_dec dec_encI, map_dec decB_enc]
  rfl
 have hout : cfD [.l ((List.replicate B.length (0 : Int)).map encI), .i (N : Int), .l (B.map encB)] = [.i 0, .l ((cert N B).1.map encI)] := by
  simp only [cfD, gz0, gs0, D.int_i, tn0, D.lst_l, map_dec decB_enc]
 rw [show F P35_1.key = cfD from rfl, hout]
 simp (disch := omega) only [pv35_1, VT.ok, Nd.holds, X.outs, X.ds, X.d, takeD_zero, takeD_cons, List.cons_append, List.nil_append, gz0, gs0, D.bool_b, and_true, F75, R75, F15752, R15752, hc1, hc2]
 exact ⟨fun _ => hp1, fun _ => hp2⟩
end Go.Proofs.YtinaaabmmjpijaaDoor.rv
namespace Go.Proofs.YtinaaabmmjpijaaDoor.rv
set_option maxRecDepth 10000
open Go.RV Sx
theorem loopM36_0 : LoopMeets Tryd.prog F (R L36_0.key) L36_0 lb36_0 := by
 refine loop_meets (pre := R) mixed (sgAt_all (P := Tryd.prog) (pre := R) (Φ := F) (l := sg36) ((fun _ h => nomatch h))) (loops_n 0 lk36_0 fun k hk => by omega) L36_0 (fun ρ => ((ρ.getD 2 default).int - (ρ.getD 3 default).int).toNat) le36_0 fun ρ _ hp => ?_
 obtain ⟨N, B, i, x, rfl, hi, hV⟩ : prVd ρ := hp
 have hBl := hV.hB
 have hN := hV.hN
 by_cases hlt : i < B.length
 ·have hmem : B.getD i b0 ∈ B := by rw [List.getD_eq_getElem?_getD, List.getElem?_eq_getElem hlt]; exact List.getElem_mem hlt
  have hrB : (B.map encB).getD i [] = encB (B.getD i b0) := rowB hlt
  obtain ⟨v1, v2, v3, v4, v5, v6, v7⟩ := hV.ok _ hmem
  generalize B.getD i b0 = b at *
  have k1 : decide (min (b.fr : Int) (b.to : Int) < 0) = false := decide_eq_false (by omega)
  have k2 : decide ((N : Int) ≤ max (b.fr : Int) (b.to : Int)) = false := decide_eq_false (by omega)
  have k3 : ((b.fr : Int) == (b.to : Int)) = false := beq_f (by omega)
  simp (disch := omega) only [rt36_0, VT.ok, Nd.holds, X.ds, X.d, Op1.ev, Op2.ev, gz0, gs0, D.int_i, D.bool_b, D.lst_l, imin, imax, tn0, lm0, fe0, implies_true, true_and, ↓reduceIte, dle_t, dlt_t, dlt_f, w64', lm0, hrB, encB, k1, k2, k3, fe0]
  refine round_next ⟨⟨N, B, i + 1, x, rfl, by omega, hV⟩, ?_, ?_⟩
  ·show ((B.length : Int) - ((i + 1 : Nat) : Int)).toNat < ((B.length : Int) - (i : Int)).toNat
   omega
  ·rfl
 ·have hj : i = B.length := by omega
  subst hj
  simp (disch := omega) only [rt36_0, VT.ok, X.ds, X.d, Op2.ev, gz0, gs0, D.int_i, D.bool_b, fe0, ↓reduceIte, dlt_f]
  exact round_exit (by omega) rfl
theorem m36 : Meets Tryd.prog 36 S36 (R 36) (F 36) := by
 refine meets_of_vt (pre := R) (Φ := F) mixed (sgAt_all (P := Tryd.prog) (pre := R) (Φ := F) (l := sg36) ((fun _ h => nomatch h))) Tryd.func36 b36 n36 (loops_n 1 k36 fun k hk => match k, hk with | 0, _ => loop_this lf36_0 loopM36_0) e36 fun ds _ hp => ?_
 obtain ⟨N, B, rfl, hV⟩ : vdPre ds := hp
 have hBl := hV.hB
 have hN := hV.hN
 have hp1 : prVd [.b false, .l (B.map encB), .i (B.length : Int), .i 0, .i (N : Int), .l (B.map encB)] := ⟨N, B, 0, _, rfl, Nat.zero_le _, hV⟩
 have hc1 : lpVd [.b false, .l (B.map encB), .i (B.length : Int), .i 0, .i (N : Int), .l (B.map encB)] = [.i 1, .b false, .i (B.length : Int)] := rfl
 have hout : F 36 [.i (N : Int), .l (B.map encB)] = [.b true] := rfl
 rw [hout]
 simp (disch := omega) only [vt36, VT.ok, Nd.holds, X.outs, X.ds, X.d, Op1.ev, Op2.ev, takeD_zero, takeD_cons, List.cons_append, List.nil_append, gz0, gs0, D.int_i, D.bool_b, D.lst_l, lm0, fe0, and_true, F13600, R13600, ↓reduceIte, dlt_f, beq_f, lm0, hc1]
 exact fun _ => hp1
theorem loopM35_0 : LoopMeets Tryd.prog F (R L35_0.key) L35_0 lb35_0 := by
 refine loop_meets (pre := R) mixed (sgAt_all (P := Tryd.prog) (pre := R) (Φ := F) (l := sg35) (fcm ⟨m36, fcm ⟨m56, fcm ⟨m55, List.forall_mem_cons.2 ⟨ProcMeets.at1 mp35_1, List.forall_mem_cons.2 ⟨MeetsAt.name, (fun _ h => nomatch h)⟩⟩⟩⟩⟩)) (loops_n 0 lk35_0 fun k hk => by omega) L35_0 (fun ρ => ((ρ.getD 0 default).int - (ρ.getD 1 default).int).toNat) le35_0 fun ρ _ hp => ?_
 obtain ⟨N, i, W, r, rfl, hi, hN, hWl, hrl⟩ : prSo ρ := hp
 by_cases hlt : i < N
 ·have rw1 := rowW (W := W) (i := i) (by omega)
  have hu := setI_map r i (Wg W i).long 0 (by omega)
  have ri : (r.map encI).getD i [] = [D.i (r.getD i 0)] := rowI (by omega)
  have hu2 : (r.map encI).set i (splice ((r.map encI).getD i []) 0 [.i (Wg W i).long]) = (longAt W i r).map encI := hu
  simp (disch := omega) only [rt35_0, VT.ok, Nd.holds, X.ds, X.d, Op1.ev, Op2.ev, gz0, gs0, D.int_i, D.bool_b, D.lst_l, tn0, lm0, implies_true, true_and, ↓reduceIte, dle_t, dlt_t, w64', lm0, rw1, encW, hu2]
  refine round_next ⟨⟨N, i + 1, W, _, rfl, by omega, hN, hWl, by rw [longAt, List.length_set]; exact hrl⟩, ?_, ?_⟩
  ·show ((N : Int) - ((i + 1 : Nat) : Int)).toNat < ((N : Int) - (i : Int)).toNat
   omega
  ·show lpSo [.i (N : Int), .i ((i + 1 : Nat) : Int), .l (W.map encW), .l ((longAt W i r).map encI)] = lpSo [.i (N : Int), .i (i : Int), .l (W.map encW), .l (r.map encI)]
   simp only [lpSo, gz0, gs0, D.int_i, tn0, D.lst_l, map_dec decW_enc, map_dec dec_encI]
   rw [fold_next (f := longAt W) (s := r) hlt]
 ·have hj : i = N := by omega
  subst hj
  simp (disch := omega) only [rt35_0, VT.ok, X.ds, X.d, Op2.ev, gz0, gs0, D.int_i, D.bool_b, fe0, ↓reduceIte, dlt_f]
  refine round_exit (by omega) ?_
  show lpSo [.i (i : Int), .i (i : Int), .l (W.map encW), .l (r.map encI)] = _
  simp only [lpSo, gz0, gs0, D.int_i, tn0, D.lst_l, map_dec decW_enc, map_dec dec_encI, fold_end]
end Go.Proofs.YtinaaabmmjpijaaDoor.rv
namespace Go.Proofs.YtinaaabmmjpijaaDoor.rv
set_option maxRecDepth 10000
open Go.RV Sx
theorem certQ_CI {N : Nat} {B : List Bd} {P0 : Int} (hV : Valid N B) : ∀ (k : Nat) (z : List Int × List Int), CI N B P0 z.1 z.2 → CI N B P0 (certQ N B k z).1 (certQ N B k z).2 ∧ (posS N z.2 < k → negs N (certQ N B k z).2 = [])
 | 0, z, h => ⟨h, fun hk => by have := posS_nn N z.2; omega⟩
 | k + 1, z, h => by
  rw [certQ_eq]
  cases e : negs N z.2 with
  | nil => exact ⟨h, fun _ => e⟩
  | cons a l =>
   obtain ⟨h1, h2⟩ := turn_ok hV h (by rw [e]; simp)
   simp only [List.isEmpty_cons, fe0, if_false]
   obtain ⟨i1, i2⟩ := certQ_CI hV k _ h1
   exact ⟨i1, fun hk => i2 (by omega)⟩
theorem cert_ok {N : Nat} {B : List Bd} {p : Nat → Int} (hV : Valid N B) (hp : Pot B (List.replicate B.length 0) p) : CI N B 1000000000000 (cert N B).1 (cert N B).2 ∧ negs N (cert N B).2 = [] := by
 obtain ⟨hC, _⟩ := CI.start hV hp
 obtain ⟨h1, h2⟩ := certQ_CI hV ((posS N (needL B (List.replicate N 0))).toNat + 1) (List.replicate B.length 0, needL B (List.replicate N 0)) hC
 exact ⟨h1, h2 (by have := posS_nn N (needL B (List.replicate N 0)); simp only; omega)⟩
theorem fill_long {W : List Wy} : ∀ (n i : Nat) (r : List Int), i ≤ n → r.length = n → (∀ k, k < i → r[k]? = some (Wg W k).long) → foldN (longAt W) n i r = rowF (fun v => (Wg W v).long) n := by
 intro n i
 induction h : n - i generalizing i with
 | zero =>
  intro r hi hl hk
  have : i = n := by omega
  subst this
  rw [fold_end]
  refine List.ext_getElem? fun k => ?_
  by_cases hk' : k < i
  ·rw [hk k hk', rowF, List.getElem?_map, List.getElem?_range hk']; rfl
  ·rw [List.getElem?_eq_none (by omega), List.getElem?_eq_none (by rw [rowF_len]; omega)]
 | succ m ih =>
  intro r hi hl hk
  rw [fold_next (by omega)]
  refine ih (i + 1) (by omega) _ (by omega) (by rw [longAt, List.length_set]; exact hl) fun k hk' => ?_
  rw [longAt, List.getElem?_set]
  by_cases e : i = k
  ·subst e; rw [if_pos rfl, if_pos (by omega)]
  ·rw [if_neg e]; exact hk k (by omega)
theorem solve_opt {N : Nat} {B : List Bd} {p : Nat → Int} (hV : Valid N B) (hp : Pot B (List.replicate B.length 0) p) :
  Pot B (cert N B).1 (fun v => (solveR N B).getD v 0) ∧ (∀ g : Nat → Int, (∀ b ∈ B, g b.fr + b.len ≤ g b.to) → costF B (fun v => (solveR N B).getD v 0) ≤ costF B g) ∧ (solveR N B).length = N ∧ ∀ v, -34359738368 ≤ (solveR N B).getD v 0 ∧ (solveR N B).getD v 0 ≤ 34359738368 := by
 obtain ⟨hC, hneg⟩ := cert_ok hV hp
 obtain ⟨q, hq⟩ := hC.pot
 have hF := (longW_fin (S := List.range N) hV hq fun v hv => List.mem_range.1 hv).2
 have hr : ∀ v, v < N → (solveR N B).getD v 0 = (Wg (longW N B (cert N B).1 (List.range N)) v).long := fun v hv => rowF_get 0 hv
 have hre : ∀ v, v < N → reached (longW N B (cert N B).1 (List.range N)) v := fun v hv => hF.st v (List.mem_range.2 hv)
 have hP : Pot B (cert N B).1 (fun v => (solveR N B).getD v 0) := fun i b hi => by
  obtain ⟨v1, v2, _⟩ := hV.ok b (List.mem_of_getElem? hi)
  have f1 := (hF.cl b.fr (hre _ v1) ⟨b.to, b.len, i, false⟩ ((mem_steps hV _ _).2 ⟨i, b, hi, .inl ⟨rfl, rfl⟩⟩)).2
  simp only [hr _ v1, hr _ v2]
  refine ⟨f1, fun hf => ?_⟩
  have f2 := (hF.cl b.to (hre _ v2) ⟨b.fr, -b.len, i, true⟩ ((mem_steps hV _ _).2 ⟨i, b, hi, .inr ⟨hf, rfl, rfl⟩⟩)).2
  simp only at f1 f2
  omega
 have hdone := hC.done hV fun v hv => by
  have : v ∉ negs N (cert N B).2 := by rw [hneg]; simp
  rw [mem_negs] at this
  omega
 refine ⟨hP, fun g hg => optimal hV hC.fl hC.f0 hdone hP hg, rowF_len, fun v => ?_⟩
 by_cases hv : v < N
 ·rw [hr v hv]; exact hF.bd v (hre v hv)
 ·rw [List.getD_eq_getElem?_getD, List.getElem?_eq_none (by rw [solveR, rowF_len]; omega)]; simp
end Go.Proofs.YtinaaabmmjpijaaDoor.rv
