/-
  Candidates: the reference's boxes; paths; equal lists.
-/
import Derived.Test.YtfmglokfgdjnjaaRvCand6
namespace Go.Proofs.Ytfmglokfgdjnjaa.rv
open Go.RV

theorem loopM11_0 : LoopMeets Try.prog F (R L11_0.key) L11_0 lb11_0 := by
  refine loop_meets (pre := R) mixed (sgAt_all (P := Try.prog) (pre := R) (Φ := F) (l := sg11) (List.forall_mem_cons.2 ⟨Meets.at (pre := R) (Φ := F) m18, List.forall_mem_cons.2 ⟨Meets.at (pre := R) (Φ := F) m25, List.forall_mem_cons.2 ⟨Meets.at (pre := R) (Φ := F) m26, (fun _ h => nomatch h)⟩⟩⟩)) (loops_n 0 lk11_0 fun k hk => by omega) L11_0 (fun ρ => (8 - (ρ.getD 3 default).int).toNat) le11_0 fun ρ _ hp => ?_
  obtain ⟨w, h, g, k, b, acc, rfl, hk, ha⟩ : pr11 ρ := hp
  have e : bv b.1 b.2.1 b.2.2.1 b.2.2.2 = vq b := rfl
  have hl : ∀ c : Bool, vq b = c → ∀ d : Bool, sz3 w h g = d → lp11 [.i w, .i h, .i g, .i (k : Int), .i b.1, .i b.2.1, .i b.2.2.1, .i b.2.2.2, .l (acc.map encQ)] = if (c && d) = true then [.i 0, .i 8, .l ((acc ++ collN (fun k => putf (place b w h g k)) 8 k).map encQ)] else [.i 0, .i (k : Int), .l (acc.map encQ)] := by
    intro c hc d hd
    simp only [lp11, e, hc, hd, map_decQ, Int.toNat_natCast]
  by_cases hlt : k < 8
  · cases hv : vq b
    · simp (disch := omega) only [rt11_0, VT.ok, Nd.holds, X.outs, X.ds, X.d, Op2.ev, takeD_zero, takeD_cons, List.cons_append, List.nil_append, List.getD_cons_zero, List.getD_cons_succ, D.int_i, D.bool_b, Bool.false_eq_true, implies_true, true_and, F18, R18, F25, R25, ↓reduceIte, dlt_t, fn18_eq, fn25_eq, e, hv]
      refine round_exit (by omega) ?_
      exact hl false hv _ rfl
    · cases hs : sz3 w h g
      · simp (disch := omega) only [rt11_0, VT.ok, Nd.holds, X.outs, X.ds, X.d, Op2.ev, takeD_zero, takeD_cons, List.cons_append, List.nil_append, List.getD_cons_zero, List.getD_cons_succ, D.int_i, D.bool_b, Bool.false_eq_true, implies_true, true_and, F18, R18, F25, R25, ↓reduceIte, dlt_t, fn18_eq, fn25_eq, e, hv, hs]
        refine round_exit (by omega) ?_
        exact hl true hv false hs
      · simp (disch := omega) only [rt11_0, VT.ok, Nd.holds, X.outs, X.ds, X.d, Op1.ev, Op2.ev, takeD_zero, takeD_cons, List.cons_append, List.nil_append, List.getD_cons_zero, List.getD_cons_succ, D.int_i, D.bool_b, D.lst_l, implies_true, true_and, F18, R18, F25, R25, F26, R26, ↓reduceIte, dlt_t, w64', fn18_eq, fn25_eq, e, hv, hs, fn26_eq hv hs (k := (k : Int)) (by omega), encQ]
        have hn : ∀ acc' : List Bx, acc' = acc ++ putf (place b w h g k) → RoundOk F (R L11_0.key) (fun ρ => (8 - (ρ.getD 3 default).int).toNat) L11_0 [.i w, .i h, .i g, .i (k : Int), .i b.1, .i b.2.1, .i b.2.2.1, .i b.2.2.2, .l (acc.map encQ)] [.i (-1), .i ((k + 1 : Nat) : Int), .l (acc'.map encQ)] := by
          rintro acc' rfl
          refine round_next ⟨⟨w, h, g, k + 1, b, acc ++ putf (place b w h g k), rfl, by omega, Nat.le_trans put_len (by omega)⟩, ?_, ?_⟩
          · show (8 - ((k + 1 : Nat) : Int)).toNat < (8 - (k : Int)).toNat
            omega
          · show lp11 [.i w, .i h, .i g, .i ((k + 1 : Nat) : Int), .i b.1, .i b.2.1, .i b.2.2.1, .i b.2.2.2, .l ((acc ++ putf (place b w h g k)).map encQ)] = lp11 [.i w, .i h, .i g, .i (k : Int), .i b.1, .i b.2.1, .i b.2.2.1, .i b.2.2.2, .l (acc.map encQ)]
            simp only [lp11, map_decQ, Int.toNat_natCast, e, hv, hs]
            rw [coll_next (f := fun k => putf (place (b.1, b.2.1, b.2.2.1, b.2.2.2) w h g k)) hlt acc]
            rfl
        have e2 : bv (place b w h g k).1 (place b w h g k).2.1 (place b w h g k).2.2.1 (place b w h g k).2.2.2 = vq (place b w h g k) := rfl
        rw [e2]
        cases hq : vq (place b w h g k)
        · simp only [Bool.false_eq_true, if_false]
          exact hn acc (by rw [putf, hq]; simp)
        · simp only [if_true, encQ_eq, cat_map]
          refine ⟨by simp; omega, hn _ (by rw [putf, hq]; simp)⟩
  · have hk : k = 8 := by omega
    subst hk
    simp (disch := omega) only [rt11_0, VT.ok, Nd.holds, X.outs, X.ds, X.d, Op2.ev, List.cons_append, List.nil_append, List.getD_cons_zero, List.getD_cons_succ, D.int_i, D.bool_b, Bool.false_eq_true, implies_true, true_and, ↓reduceIte, dlt_f, F18, R18, F25, R25]
    refine round_exit (by omega) ?_
    refine (hl _ rfl _ rfl).trans ?_
    rw [coll_end]
    split <;> rfl
theorem m11 : Meets Try.prog 11 S11 (R 11) (F 11) := by
  refine meets_of_vt (pre := R) (Φ := F) mixed (sgAt_all (P := Try.prog) (pre := R) (Φ := F) (l := sg11) (List.forall_mem_cons.2 ⟨Meets.at (pre := R) (Φ := F) m18, List.forall_mem_cons.2 ⟨Meets.at (pre := R) (Φ := F) m25, List.forall_mem_cons.2 ⟨Meets.at (pre := R) (Φ := F) m26, (fun _ h => nomatch h)⟩⟩⟩)) Try.func11 b11 n11 (loops_n 1 k11 fun k hk => match k, hk with | 0, _ => loop_this lf11_0 loopM11_0) e11 fun ds _ hp => ?_
  obtain ⟨b, w, h, g, rfl⟩ : aroundPre ds := hp
  simp only [vt11, VT.ok, Nd.holds, X.outs, X.ds, X.d, List.cons_append, List.nil_append, List.getD_cons_zero, List.getD_cons_succ, D.bool_b, F11, F11100, R11100, aroundD, around]
  refine ⟨fun _ => ⟨w, h, g, 0, b, [], rfl, by omega, by simp⟩, ?_⟩
  simp only [lp11, List.map_nil, List.nil_append, Int.toNat_zero]
  have e : bv b.1 b.2.1 b.2.2.1 b.2.2.2 = vq b := rfl
  rw [e]
  split <;> rfl

/-! ### along a path -/
theorem pair_len (b : Bx) (w h g : Int) : (pair b w h g).length ≤ 2 := by
  rw [pair, List.length_append]
  have := putf_len (place b w h g (first b))
  have := putf_len (place b w h g (first b + 4))
  omega
theorem loopM13_0 : LoopMeets Try.prog F (R L13_0.key) L13_0 lb13_0 := by
  refine loop_meets (pre := R) mixed (sgAt_all (P := Try.prog) (pre := R) (Φ := F) (l := sg13) (List.forall_mem_cons.2 ⟨Meets.at (pre := R) (Φ := F) m27, List.forall_mem_cons.2 ⟨Meets.at (pre := R) (Φ := F) m22, List.forall_mem_cons.2 ⟨Meets.at (pre := R) (Φ := F) m29, List.forall_mem_cons.2 ⟨Meets.at (pre := R) (Φ := F) m24, List.forall_mem_cons.2 ⟨ProcMeets.at1 mp13_0, List.forall_mem_cons.2 ⟨MeetsAt.name, (fun _ h => nomatch h)⟩⟩⟩⟩⟩⟩)) (loops_n 0 lk13_0 fun k hk => by omega) L13_0 (fun ρ => (((ρ.getD 0 default).lst.length : Int) - (ρ.getD 4 default).int).toNat) le13_0 fun ρ _ hp => ?_
  obtain ⟨l, w, h, g, i, acc, rfl, hq, hs, hi, ha⟩ : pr13 ρ := hp
  have h5 := (path_iff.1 hq).1
  by_cases hlt : i < l.length
  · have hsub : ((l.map encP).take (i + 1)).drop (i - 1) = [l.getD (i - 1) p0, l.getD i p0].map encP := by
      rw [← List.map_take, ← List.map_drop, two (by omega) hlt]
    have hpp : pathPre [.l ([l.getD (i - 1) p0, l.getD i p0].map encP)] := ⟨_, rfl, by show 2 ≤ maxLen; rw [maxLen_val]; omega⟩
    have hbd : bndD [.l ([l.getD (i - 1) p0, l.getD i p0].map encP)] = encQ (segN l i) := by
      show encQ (bnd (([l.getD (i - 1) p0, l.getD i p0].map encP).map decP)) = _
      rw [map_decP, bnd_two hq (by omega) hlt]
    have hv := seg_ok hq (by omega : 0 < i) hlt
    have hvi := vq_iff.1 hv
    have hN : ∀ acc', acc' = acc ++ pair (segN l i) w h g → RoundOk F (R L13_0.key) (fun ρ => (((ρ.getD 0 default).lst.length : Int) - (ρ.getD 4 default).int).toNat) L13_0 [.l (l.map encP), .i w, .i h, .i g, .i (i : Int), .l (acc.map encQ)] [.i (-1), .i ((i + 1 : Nat) : Int), .l (acc'.map encQ)] := by
      rintro acc' rfl
      refine round_next ⟨⟨l, w, h, g, i + 1, _, rfl, hq, hs, by omega, by rw [List.length_append]; have := pair_len (segN l i) w h g; omega⟩, ?_, ?_⟩
      · show (((l.map encP).length : Int) - ((i + 1 : Nat) : Int)).toNat < (((l.map encP).length : Int) - (i : Int)).toNat
        rw [List.length_map]; omega
      · show lp13 [.l (l.map encP), .i w, .i h, .i g, .i ((i + 1 : Nat) : Int), .l ((acc ++ pair (segN l i) w h g).map encQ)] = lp13 [.l (l.map encP), .i w, .i h, .i g, .i (i : Int), .l (acc.map encQ)]
        simp only [lp13, map_decQ, map_decP, List.length_map, Int.toNat_natCast]
        rw [coll_next (f := fun i => pair (segN l i) w h g) hlt acc]
    simp (disch := omega) only [rt13_0, VT.ok, Nd.holds, X.outs, X.ds, X.d, Op1.ev, Op2.ev, takeD_zero, takeD_cons, List.cons_append, List.nil_append, List.getD_cons_zero, List.getD_cons_succ, D.int_i, D.bool_b, D.lst_l, List.length_map, implies_true, true_and, F20028000, R20028000, F24, R24, F29, R29, ↓reduceIte, dle_t, dlt_t, w64', pred_nat, suc_nat, hsub, hbd, encQ]
    refine ⟨fun _ => hpp, ?_⟩
    have hpr : ∀ (acc : List Bx) (q : Bx), acc.length ≤ 4096 → putPre [.l (acc.map encQ), .i q.1, .i q.2.1, .i q.2.2.1, .i q.2.2.2] := fun acc q h => ⟨acc, q, rfl, by omega⟩
    by_cases hw : (segN l i).2.2.2 - (segN l i).2.1 ≤ (segN l i).2.2.1 - (segN l i).1
    · have hf : first (segN l i) = 0 := by rw [first, if_neg (by omega)]
      simp (disch := omega) only [takeD_zero, takeD_cons, List.cons_append, List.nil_append, List.getD_cons_zero, List.getD_cons_succ, ↓reduceIte, dle_t, fn24_eq hv hs (k := 0) (by omega), fn24_eq hv hs (k := 4) (by omega), encQ, putD, map_decQ]
      refine ⟨fun _ => hpr _ _ (by omega), fun _ => hpr _ _ (Nat.le_trans put_len (by omega)), ?_⟩
      exact hN _ (by rw [pair, hf, List.append_assoc]; rfl)
    · have hf : first (segN l i) = 2 := by rw [first, if_pos (by omega)]
      simp (disch := omega) only [takeD_zero, takeD_cons, List.cons_append, List.nil_append, List.getD_cons_zero, List.getD_cons_succ, Bool.false_eq_true, ↓reduceIte, dle_f, fn24_eq hv hs (k := 2) (by omega), fn24_eq hv hs (k := 6) (by omega), encQ, putD, map_decQ]
      refine ⟨fun _ => hpr _ _ (by omega), fun _ => hpr _ _ (Nat.le_trans put_len (by omega)), ?_⟩
      exact hN _ (by rw [pair, hf, List.append_assoc]; rfl)
  · have hj : i = l.length := by omega
    subst hj
    simp (disch := omega) only [rt13_0, VT.ok, X.ds, X.d, Op1.ev, Op2.ev, List.getD_cons_zero, List.getD_cons_succ, D.int_i, D.bool_b, D.lst_l, List.length_map, Bool.false_eq_true, ↓reduceIte, dlt_f]
    refine round_exit (by omega) ?_
    show lp13 [.l (l.map encP), .i w, .i h, .i g, .i (l.length : Int), .l (acc.map encQ)] = _
    simp only [lp13, map_decQ, List.length_map, Int.toNat_natCast, coll_end]
theorem m13 : Meets Try.prog 13 S13 (R 13) (F 13) := by
  refine meets_of_vt (pre := R) (Φ := F) mixed (sgAt_all (P := Try.prog) (pre := R) (Φ := F) (l := sg13) (List.forall_mem_cons.2 ⟨Meets.at (pre := R) (Φ := F) m27, List.forall_mem_cons.2 ⟨Meets.at (pre := R) (Φ := F) m22, List.forall_mem_cons.2 ⟨Meets.at (pre := R) (Φ := F) m29, List.forall_mem_cons.2 ⟨Meets.at (pre := R) (Φ := F) m24, List.forall_mem_cons.2 ⟨ProcMeets.at1 mp13_0, List.forall_mem_cons.2 ⟨MeetsAt.name, (fun _ h => nomatch h)⟩⟩⟩⟩⟩⟩)) Try.func13 b13 n13 (loops_n 1 k13 fun k hk => match k, hk with | 0, _ => loop_this lf13_0 loopM13_0) e13 fun ds _ hp => ?_
  obtain ⟨l, w, h, g, rfl, hm⟩ : alongPre ds := hp
  have hpre : szPre [.l [[.i w], [.i h], [.i g]]] := ⟨[w, h, g], rfl, by show 3 ≤ maxLen; rw [maxLen_val]; omega⟩
  simp only [vt13, VT.ok, Nd.holds, X.outs, X.ds, X.d, Op1.ev, takeD_zero, takeD_cons, List.cons_append, List.nil_append, List.getD_cons_zero, List.getD_cons_succ, D.bool_b, D.lst_l, ite_b, ite_or, F13, F11300, R11300, F22, R22, F27, R27, pathD, map_decP, sz22, alongD, along]
  refine ⟨fun _ => ⟨l, rfl, hm⟩, fun _ => hpre, ?_⟩
  cases hv : path l
  · rfl
  · cases hs : sz3 w h g
    · rfl
    · have := (path_iff.1 hv).1
      simp only [Bool.not_true, Bool.or_false, Bool.false_eq_true, if_false, Bool.and_self, if_true]
      refine ⟨fun _ => ⟨l, w, h, g, 1, [], rfl, hv, hs, by omega, by simp⟩, ?_⟩
      simp only [lp13, List.map_nil, List.nil_append, map_decP, List.length_map]
      rfl
end Go.Proofs.Ytfmglokfgdjnjaa.rv
