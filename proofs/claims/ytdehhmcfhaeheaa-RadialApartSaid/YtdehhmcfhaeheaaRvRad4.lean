/-
  Radial drawings: forests, leaves.
-/
import Derived.Test.YtdehhmcfhaeheaaRvRad3
namespace Go.Proofs.Ytdehhmcfhaeheaa.rv
open Go.RV

theorem dp_enc (l : List Int) : dp (l.map encI) = l := map_decI l
theorem parI {l : List Int} {i : Nat} (h : i < l.length) : (l.map encI).getD i [] = encI (par l i) := by
  rw [rowI h, par]; simp [List.getD, h]

theorem loopM22_0 : LoopMeets Try.prog F (R L22_0.key) L22_0 lb22_0 := by
  refine loop_meets (pre := R) mixed (sgAt_all (P := Try.prog) (pre := R) (Φ := F) (l := sg22) ((fun _ h => nomatch h))) (loops_n 0 lk22_0 fun k hk => by omega) L22_0 (fun ρ => ((ρ.getD 2 default).int - (ρ.getD 3 default).int).toNat) le22_0 fun ρ _ hp => ?_
  obtain ⟨v, l, j, rfl, hj, hm⟩ : pr22 ρ := hp
  rw [maxLen_val] at hm
  by_cases hlt : j < l.length
  · simp (disch := omega) only [rt22_0, VT.ok, Nd.holds, X.ds, X.d, Op1.ev, Op2.ev, List.getD_cons_zero, List.getD_cons_succ, D.int_i, D.bool_b, D.lst_l, ite_b, ite_or, Int.toNat_natCast, List.length_map, implies_true, true_and, ↓reduceIte, dle_t, dlt_t, w64', parI, encI]
    show if badV l j = true then _ else _
    cases hb : badV l j
    · simp only [Bool.false_eq_true, if_false]
      refine round_next ⟨⟨v, l, j + 1, rfl, by omega, hm⟩, ?_, ?_⟩
      · show ((l.length : Int) - ((j + 1 : Nat) : Int)).toNat < ((l.length : Int) - (j : Int)).toNat
        omega
      · show lp22 [v, .l (l.map encI), .i (l.length : Int), .i ((j + 1 : Nat) : Int)] = lp22 [v, .l (l.map encI), .i (l.length : Int), .i (j : Int)]
        simp only [lp22, dp_enc, List.length_map, Int.toNat_natCast]
        exact scan_next hlt hb
    · simp only [if_true]
      refine round_exit (by omega) ?_
      show lp22 [v, .l (l.map encI), .i (l.length : Int), .i (j : Int)] = _
      simp only [lp22, dp_enc, List.length_map, Int.toNat_natCast]
      exact scan_hit hlt hb
  · have hj : j = l.length := by omega
    subst hj
    simp (disch := omega) only [rt22_0, VT.ok, X.ds, X.d, Op2.ev, List.getD_cons_zero, List.getD_cons_succ, D.int_i, D.bool_b, Bool.false_eq_true, ↓reduceIte, dlt_f]
    refine round_exit (by omega) ?_
    show lp22 [v, .l (l.map encI), .i (l.length : Int), .i (l.length : Int)] = _
    simp only [lp22, dp_enc, List.length_map, Int.toNat_natCast]
    exact scan_end
theorem ok_cond (l : List Int) (h : ¬ (64 : Int) < l.length) : okF l = !anyN (badV l) l.length := by
  rw [okF, dle_t (by omega), Bool.true_and]
theorem ok_long (l : List Int) (h : (64 : Int) < l.length) : okF l = false := by
  rw [okF, dle_f (by omega), Bool.false_and]
theorem m22 : Meets Try.prog 22 S22 (R 22) (F 22) := by
  refine meets_of_vt (pre := R) (Φ := F) mixed (sgAt_all (P := Try.prog) (pre := R) (Φ := F) (l := sg22) ((fun _ h => nomatch h))) Try.func22 b22 n22 (loops_n 1 k22 fun k hk => match k, hk with | 0, _ => loop_this lf22_0 loopM22_0) e22 fun ds _ hp => ?_
  obtain ⟨l, rfl, hm⟩ : lPre ds := hp
  have hpre : pr22 [.b false, .l (l.map encI), .i (l.length : Int), .i 0] := ⟨.b false, l, 0, rfl, by omega, hm⟩
  by_cases h : (64 : Int) < l.length
  · simp (disch := omega) only [vt22, VT.ok, X.ds, X.d, Op1.ev, Op2.ev, List.getD_cons_zero, D.int_i, D.bool_b, D.lst_l, List.length_map, F22, ↓reduceIte, dlt_t, okD, dp_enc, ok_long]
  · simp (disch := omega) only [vt22, VT.ok, Nd.holds, X.outs, X.ds, X.d, Op1.ev, Op2.ev, List.cons_append, List.nil_append, List.getD_cons_zero, List.getD_cons_succ, D.int_i, D.bool_b, D.lst_l, List.length_map, Bool.false_eq_true, F22, F12200, R12200, ↓reduceIte, dlt_f, okD, dp_enc, ok_cond]
    refine ⟨fun _ => hpre, ?_⟩
    simp only [lp22, dp_enc, List.length_map, Int.toNat_zero, Nat.sub_zero]
    rcases scan_two (p := badV l) l.length with ⟨h1, j, _, _, _, h⟩ | ⟨h1, h⟩
    · simp only [h, h1]; rfl
    · simp only [h, h1]; rfl

theorem loopM19_0 : LoopMeets Try.prog F (R L19_0.key) L19_0 lb19_0 := by
  refine loop_meets (pre := R) mixed (sgAt_all (P := Try.prog) (pre := R) (Φ := F) (l := sg19) ((fun _ h => nomatch h))) (loops_n 0 lk19_0 fun k hk => by omega) L19_0 (fun ρ => (((ρ.getD 0 default).lst.length : Int) - (ρ.getD 2 default).int).toNat) le19_0 fun ρ _ hp => ?_
  obtain ⟨v, l, j, rfl, hj, hm⟩ : pr19 ρ := hp
  rw [maxLen_val] at hm
  by_cases hlt : j < l.length
  · simp (disch := omega) only [rt19_0, VT.ok, Nd.holds, X.ds, X.d, Op1.ev, Op2.ev, List.getD_cons_zero, List.getD_cons_succ, D.int_i, D.bool_b, D.lst_l, ite_b, ite_or, Int.toNat_natCast, List.length_map, implies_true, true_and, ↓reduceIte, dle_t, dlt_t, w64', parI, encI]
    show if badV l j = true then _ else _
    cases hb : badV l j
    · simp only [Bool.false_eq_true, if_false]
      refine round_next ⟨⟨v, l, j + 1, rfl, by omega, hm⟩, ?_, ?_⟩
      · show (((l.map encI).length : Int) - ((j + 1 : Nat) : Int)).toNat < (((l.map encI).length : Int) - (j : Int)).toNat
        rw [List.length_map]; omega
      · show lp19 [.l (l.map encI), v, .i ((j + 1 : Nat) : Int)] = lp19 [.l (l.map encI), v, .i (j : Int)]
        simp only [lp19, dp_enc, List.length_map, Int.toNat_natCast]
        exact scan_next hlt hb
    · simp only [if_true]
      refine round_exit (by omega) ?_
      show lp19 [.l (l.map encI), v, .i (j : Int)] = _
      simp only [lp19, dp_enc, List.length_map, Int.toNat_natCast]
      exact scan_hit hlt hb
  · have hj : j = l.length := by omega
    subst hj
    simp (disch := omega) only [rt19_0, VT.ok, X.ds, X.d, Op1.ev, Op2.ev, List.getD_cons_zero, List.getD_cons_succ, D.int_i, D.bool_b, D.lst_l, List.length_map, Bool.false_eq_true, ↓reduceIte, dlt_f]
    refine round_exit (by omega) ?_
    show lp19 [.l (l.map encI), v, .i (l.length : Int)] = _
    simp only [lp19, dp_enc, List.length_map, Int.toNat_natCast]
    exact scan_end
theorem m19 : Meets Try.prog 19 S19 (R 19) (F 19) := by
  refine meets_of_vt (pre := R) (Φ := F) mixed (sgAt_all (P := Try.prog) (pre := R) (Φ := F) (l := sg19) ((fun _ h => nomatch h))) Try.func19 b19 n19 (loops_n 1 k19 fun k hk => match k, hk with | 0, _ => loop_this lf19_0 loopM19_0) e19 fun ds _ hp => ?_
  obtain ⟨l, rfl, hm⟩ : lPre ds := hp
  have hpre : pr19 [.l (l.map encI), .b false, .i 0] := ⟨.b false, l, 0, rfl, by omega, hm⟩
  by_cases h : (64 : Int) < l.length
  · simp (disch := omega) only [vt19, VT.ok, X.ds, X.d, Op1.ev, Op2.ev, List.getD_cons_zero, D.int_i, D.bool_b, D.lst_l, List.length_map, F19, ↓reduceIte, dlt_t, okD, dp_enc, ok_long]
  · simp (disch := omega) only [vt19, VT.ok, Nd.holds, X.outs, X.ds, X.d, Op1.ev, Op2.ev, List.cons_append, List.nil_append, List.getD_cons_zero, List.getD_cons_succ, D.int_i, D.bool_b, D.lst_l, List.length_map, Bool.false_eq_true, F19, F11900, R11900, ↓reduceIte, dlt_f, okD, dp_enc, ok_cond]
    refine ⟨fun _ => hpre, ?_⟩
    simp only [lp19, dp_enc, List.length_map, Int.toNat_zero, Nat.sub_zero]
    rcases scan_two (p := badV l) l.length with ⟨h1, j, _, _, _, h⟩ | ⟨h1, h⟩
    · simp only [h, h1]; rfl
    · simp only [h, h1]; rfl

/-! ### leaves -/
theorem B_all (p : List Int) (w : Int) : B p w p.length = S p w := rfl
theorem B_none {p : List Int} (hp : Forest p) {v k : Nat} (h : k ≤ v + 1) (hk : k ≤ p.length) : B p (v : Int) k = 0 := by
  refine sumTo_zero fun u hu => ?_
  unfold ch
  have := hp.2 u (by omega)
  rw [if_neg (by omega)]
theorem B_bd {p : List Int} (hp : Forest p) {v : Nat} (hv : v < p.length) {k : Nat} (hk : k ≤ p.length) : 0 ≤ B p (v : Int) k ∧ B p (v : Int) k ≤ S p v ∧ S p v ≤ L p v ∧ L p v ≤ 64 := by
  have h1 := L_eq hp hv
  have h2 := L_le hp _ v (Nat.le_refl _) hv
  have h3 := hp.1
  exact ⟨sumTo_nonneg fun i _ => ch_nonneg p _ i, sumTo_mono (ch_nonneg p _) hk, by omega, by omega⟩
theorem down_top (p : List Int) : rowF (down p p.length) p.length = rowF (fun _ => 0) p.length := by
  refine rowF_congr fun v hv => ?_
  rw [down, if_neg (by omega), B_all]; omega
theorem down_zero {p : List Int} : rowF (down p 0) p.length = Lrow p := by
  refine rowF_congr fun v hv => ?_
  rw [down, if_pos (by omega)]
/-- one step of the leaves' loop -/
theorem down_step {p : List Int} (hp : Forest p) {k : Nat} (hk : k + 1 ≤ p.length) :
    (rowF (down p (k + 1)) p.length).getD k 0 = S p k ∧
    (par p k < 0 → (rowF (down p (k + 1)) p.length).set k (L p k) = rowF (down p k) p.length) ∧
    (0 ≤ par p k → ((rowF (down p (k + 1)) p.length).set k (L p k)).set (par p k).toNat (((rowF (down p (k + 1)) p.length).set k (L p k)).getD (par p k).toNat 0 + L p k) = rowF (down p k) p.length) := by
  have hb := hp.2 k (by omega)
  have hB : ∀ v : Nat, B p (v : Int) (k + 1) = B p (v : Int) k + ch p (L p) v k := fun v => rfl
  refine ⟨?_, fun h0 => ?_, fun h0 => ?_⟩
  · rw [rowF_get 0 (by omega), down, if_neg (by omega), B_none hp (by omega) hk]; omega
  · rw [rowF_set]
    refine rowF_congr fun v hv => ?_
    unfold down
    by_cases e : v = k
    · subst e; rw [if_pos rfl, if_pos (by omega)]
    · rw [if_neg e]
      by_cases e2 : k + 1 ≤ v
      · rw [if_pos e2, if_pos (by omega)]
      · rw [if_neg e2, if_neg (by omega), hB]
        unfold ch
        rw [if_neg (by omega)]; omega
  · rw [rowF_set, rowF_get 0 (by omega), rowF_set]
    refine rowF_congr fun v hv => ?_
    rw [if_neg (by omega : ¬ (par p k).toNat = k)]
    unfold down
    by_cases e : v = (par p k).toNat
    · subst e
      rw [if_pos rfl, if_neg (by omega), if_neg (by omega), hB]
      unfold ch
      rw [if_pos (by omega)]; omega
    · rw [if_neg e]
      by_cases e1 : v = k
      · subst e1; rw [if_pos rfl, if_pos (by omega)]
      · rw [if_neg e1]
        by_cases e2 : k + 1 ≤ v
        · rw [if_pos e2, if_pos (by omega)]
        · rw [if_neg e2, if_neg (by omega), hB]
          unfold ch
          rw [if_neg (by omega)]; omega
end Go.Proofs.Ytdehhmcfhaeheaa.rv
