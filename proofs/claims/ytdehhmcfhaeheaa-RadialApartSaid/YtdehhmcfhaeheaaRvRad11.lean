/-
  Radial drawings: the reference's wedges and angles.
-/
import Derived.Test.YtdehhmcfhaeheaaRvRad10
namespace Go.Proofs.Ytdehhmcfhaeheaa.rv
open Go.RV

theorem B_small {p : List Int} (hp : Forest p) {v : Nat} (hv : v < p.length) {u : Nat} (hu : u ≤ p.length) : 0 ≤ B p (par p v) u ∧ B p (par p v) u ≤ 64 := by
  have h1 := S_le hp hv
  have h2 := hp.1
  have h3 := sumTo_mono (ch_nonneg p (par p v)) hu
  exact ⟨sumTo_nonneg fun j _ => ch_nonneg p _ j, by unfold B; unfold S at h1; omega⟩
theorem loopM24_1 : LoopMeets Try.prog F (R L24_1.key) L24_1 lb24_1 := by
  refine loop_meets (pre := R) mixed (sgAt_all (P := Try.prog) (pre := R) (Φ := F) (l := sg24) (List.forall_mem_cons.2 ⟨Meets.at (pre := R) (Φ := F) m13, (fun _ h => nomatch h)⟩)) (loops_n 0 lk24_1 fun k hk => by omega) L24_1 (fun ρ => (((ρ.getD 0 default).lst.length : Int) - (ρ.getD 5 default).int).toNat) le24_1 fun ρ _ hq => ?_
  obtain ⟨p, v, u, rfl, hp, hv, hu⟩ : pr24i ρ := hq
  have h64 := hp.1
  by_cases hlt : u < p.length
  · have hLp := L_pos p u
    have hLk := L_le hp _ u (Nat.le_refl _) hlt
    have b1 := B_small hp hv (u := u) (by omega)
    have b2 := B_small hp hv (u := min u v) (by omega)
    have hlen : (Lrow p).length = p.length := rowF_len
    have hLi : (Lrow p).getD u 0 = L p u := rowF_get 0 hlt
    have hpu : (p.map encI).getD u [] = encI (par p u) := parI hlt
    have hpv : (p.map encI).getD v [] = encI (par p v) := parI hv
    have hN : ∀ x y : Int, x = B p (par p v) (u + 1) → y = B p (par p v) (min (u + 1) v) → RoundOk F (R L24_1.key) (fun ρ => (((ρ.getD 0 default).lst.length : Int) - (ρ.getD 5 default).int).toNat) L24_1 [.l (p.map encI), .l ((Lrow p).map encI), .i (v : Int), .i (B p (par p v) u), .i (B p (par p v) (min u v)), .i (u : Int)] [.i (-1), .i x, .i y, .i ((u + 1 : Nat) : Int)] := by
      rintro x y rfl rfl
      refine round_next ⟨⟨p, v, u + 1, rfl, hp, hv, by omega⟩, ?_, rfl⟩
      show (((p.map encI).length : Int) - ((u + 1 : Nat) : Int)).toNat < (((p.map encI).length : Int) - (u : Int)).toNat
      rw [List.length_map]; omega
    by_cases h0 : par p u = par p v
    · by_cases h1 : u < v
      · simp (disch := omega) only [rt24_1, VT.ok, Nd.holds, X.ds, X.d, Op1.ev, Op2.ev, List.getD_cons_zero, List.getD_cons_succ, D.int_i, D.bool_b, D.lst_l, Int.toNat_natCast, List.length_map, implies_true, true_and, ↓reduceIte, dle_t, dlt_t, beq_t, w64', hpu, hpv, rowI, encI, hlen, hLi]
        exact hN _ _ (by rw [B_succ, ch, if_pos h0]) (by rw [show min (u + 1) v = u + 1 by omega, show min u v = u by omega, B_succ, ch, if_pos h0])
      · simp (disch := omega) only [rt24_1, VT.ok, Nd.holds, X.ds, X.d, Op1.ev, Op2.ev, List.getD_cons_zero, List.getD_cons_succ, D.int_i, D.bool_b, D.lst_l, Int.toNat_natCast, List.length_map, Bool.false_eq_true, implies_true, true_and, ↓reduceIte, dle_t, dlt_t, dlt_f, beq_t, w64', hpu, hpv, rowI, encI, hlen, hLi]
        exact hN _ _ (by rw [B_succ, ch, if_pos h0]) (by rw [show min (u + 1) v = v by omega, show min u v = v by omega])
    · simp (disch := omega) only [rt24_1, VT.ok, Nd.holds, X.ds, X.d, Op1.ev, Op2.ev, List.getD_cons_zero, List.getD_cons_succ, D.int_i, D.bool_b, D.lst_l, Int.toNat_natCast, List.length_map, Bool.false_eq_true, implies_true, true_and, ↓reduceIte, dle_t, dlt_t, beq_f, w64', hpu, hpv, encI]
      refine hN _ _ (by rw [B_succ, ch, if_neg h0]; omega) ?_
      by_cases h1 : u < v
      · rw [show min (u + 1) v = u + 1 by omega, show min u v = u by omega, B_succ, ch, if_neg h0]; omega
      · rw [show min (u + 1) v = v by omega, show min u v = v by omega]
  · have hj : u = p.length := by omega
    subst hj
    simp (disch := omega) only [rt24_1, VT.ok, X.ds, X.d, Op1.ev, Op2.ev, List.getD_cons_zero, List.getD_cons_succ, D.int_i, D.bool_b, D.lst_l, List.length_map, Bool.false_eq_true, ↓reduceIte, dlt_f]
    refine round_exit (by omega) ?_
    rw [show F L24_1.key = lp24i from F12400]
    simp only [lp24i, dp_enc, List.length_map, Int.toNat_natCast, show min p.length v = v by omega]
    rfl
theorem loopM24_0 : LoopMeets Try.prog F (R L24_0.key) L24_0 lb24_0 := by
  refine loop_meets (pre := R) mixed (sgAt_all (P := Try.prog) (pre := R) (Φ := F) (l := sg24) (List.forall_mem_cons.2 ⟨Meets.at (pre := R) (Φ := F) m13, (fun _ h => nomatch h)⟩)) (loops_n 1 lk24_0 fun k hk => match k, hk with | 0, _ => by rw [li24_0_0]; exact loop_this lf24_1 loopM24_1) L24_0 (fun ρ => (((ρ.getD 0 default).lst.length : Int) - (ρ.getD 2 default).int).toNat) le24_0 fun ρ _ hq => ?_
  obtain ⟨p, i, rfl, hp, hi⟩ : pr24 ρ := hq
  have h64 := hp.1
  by_cases hlt : i < p.length
  · have hb := hp.2 i hlt
    have hLp := L_pos p i
    have hLk := L_le hp _ i (Nat.le_refl _) hlt
    have b1 := B_small hp hlt (u := i) (by omega)
    have b3 := B_le hlt
    have b4 := S_le hp hlt
    have hlen : (Lrow p).length = p.length := rowF_len
    have hla : (rowF (ft p) i).length = i := rowF_len
    have hLi : (Lrow p).getD i 0 = L p i := rowF_get 0 hlt
    have hpi : (p.map encI).getD i [] = encI (par p i) := parI hlt
    have hW := W_ok hp (q := 0) (by omega) (by omega) _ i (Nat.le_refl _) hlt
    have hpre : pr24i [.l (p.map encI), .l ((Lrow p).map encI), .i (i : Int), .i 0, .i 0, .i 0] := ⟨p, i, 0, by rw [show min 0 i = 0 by omega]; rfl, hp, hlt, by omega⟩
    have hin : lp24i [.l (p.map encI), .l ((Lrow p).map encI), .i (i : Int), .i 0, .i 0, .i 0] = [.i 0, .i (S p (par p i)), .i (B p (par p i) i), .i (p.length : Int)] := by
      simp only [lp24i, dp_enc, List.length_map, Int.toNat_natCast]
    have hN : ∀ x : Pt, x = ft p i → RoundOk F (R L24_0.key) (fun ρ => (((ρ.getD 0 default).lst.length : Int) - (ρ.getD 2 default).int).toNat) L24_0 [.l (p.map encI), .l ((Lrow p).map encI), .i (i : Int), .l ((rowF (ft p) i).map encP)] [.i (-1), .i ((i + 1 : Nat) : Int), .l ((rowF (ft p) i ++ [x]).map encP)] := by
      rintro x rfl
      rw [rowF_snoc]
      refine round_next ⟨⟨p, i + 1, rfl, hp, by omega⟩, ?_, rfl⟩
      show (((p.map encI).length : Int) - ((i + 1 : Nat) : Int)).toNat < (((p.map encI).length : Int) - (i : Int)).toNat
      rw [List.length_map]; omega
    have hWi := W_eq hp hlt
    by_cases h0 : 0 ≤ par p i
    · have hs := w_small (wOk_at hp hlt h0)
      rw [L_par hp hlt h0] at hs
      simp only at hs
      have hWu := W_ok hp (q := 0) (by omega) (by omega) _ (par p i).toNat (Nat.le_refl _) (by omega)
      have hg : (rowF (ft p) i).getD (par p i).toNat p0 = ft p (par p i).toNat := rowF_get p0 (by omega)
      rw [above, if_pos h0] at hWi
      have hsz : (W p (par p i).toNat).1 + (W p (par p i).toNat).2 - (W p (par p i).toNat).1 = (W p (par p i).toNat).2 := by omega
      simp (disch := omega) only [rt24_0, VT.ok, Nd.holds, X.outs, X.ds, X.d, Op1.ev, Op2.ev, takeD_zero, takeD_cons, List.cons_append, List.nil_append, List.getD_cons_zero, List.getD_cons_succ, D.int_i, D.bool_b, D.lst_l, Int.toNat_natCast, List.length_map, implies_true, true_and, F12400, R12400, ↓reduceIte, dle_t, dlt_t, beq_f, w64', hpi, rowI, rowP, encI, encP, hlen, hla, hLi, hg, hin, ft, hsz, tdivp, Bool.not_false, catP, List.length_append, List.length_cons, List.length_nil]
      refine ⟨fun _ => hpre, hN _ ?_⟩
      rw [ft, hWi, part1]
      simp only [Prod.mk.injEq, true_and]
      omega
    · have hs : (0 ≤ B p (-1) i * 360 ∧ B p (-1) i * 360 ≤ 23040) ∧ (0 ≤ (B p (-1) i + L p i) * 360 ∧ (B p (-1) i + L p i) * 360 ≤ 23040) ∧ (0 ≤ B p (-1) i * 360 / S p (-1) ∧ B p (-1) i * 360 / S p (-1) ≤ 23040) ∧ 0 ≤ (B p (-1) i + L p i) * 360 / S p (-1) ∧ (B p (-1) i + L p i) * 360 / S p (-1) ≤ 23040 := w_small (wOk_root hp hlt (by omega))
      have e : par p i = -1 := by omega
      rw [above, if_neg h0] at hWi
      rw [e] at hWi b1 b3 b4 hin
      simp (disch := omega) only [rt24_0, VT.ok, Nd.holds, X.outs, X.ds, X.d, Op1.ev, Op2.ev, takeD_zero, takeD_cons, List.cons_append, List.nil_append, List.getD_cons_zero, List.getD_cons_succ, D.int_i, D.bool_b, D.lst_l, Int.toNat_natCast, List.length_map, Bool.false_eq_true, implies_true, true_and, F12400, R12400, ↓reduceIte, dle_t, dle_f, dlt_t, beq_f, w64', hpi, rowI, encI, hlen, hla, hLi, hin, tdivp, Bool.not_false, catP, List.length_append, List.length_cons, List.length_nil, show (360 : Int) - 0 = 360 from rfl]
      refine ⟨fun _ => hpre, hN _ ?_⟩
      rw [ft, hWi, part1]
      simp only [Prod.mk.injEq, true_and]
      omega
  · have hj : i = p.length := by omega
    subst hj
    simp (disch := omega) only [rt24_0, VT.ok, X.ds, X.d, Op1.ev, Op2.ev, List.getD_cons_zero, List.getD_cons_succ, D.int_i, D.bool_b, D.lst_l, List.length_map, Bool.false_eq_true, ↓reduceIte, dlt_f]
    refine round_exit (by omega) ?_
    rw [show F L24_0.key = lp24 from F12401]
    simp only [lp24, dp_enc, List.length_map]
theorem m24 : Meets Try.prog 24 S24 (R 24) (F 24) := by
  refine meets_of_vt (pre := R) (Φ := F) mixed (sgAt_all (P := Try.prog) (pre := R) (Φ := F) (l := sg24) (List.forall_mem_cons.2 ⟨Meets.at (pre := R) (Φ := F) m13, (fun _ h => nomatch h)⟩)) Try.func24 b24 n24 (loops_n 2 k24 fun k hk => match k, hk with | 0, _ => loop_this lf24_0 loopM24_0 | 1, _ => loop_this lf24_1 loopM24_1) e24 fun ds _ hq => ?_
  obtain ⟨p, rfl, hp⟩ : fPre ds := hq
  have h64 := hp.1
  have h0 : lPre [.l (p.map encI)] := ⟨p, rfl, by rw [maxLen_val]; omega⟩
  have h1 : pr24 [.l (p.map encI), .l ((Lrow p).map encI), .i 0, .l []] := ⟨p, 0, rfl, hp, by omega⟩
  have hk : okF p = true := okF_iff.2 hp
  simp only [vt24, VT.ok, Nd.holds, X.outs, X.ds, X.d, takeD_zero, takeD_cons, List.cons_append, List.nil_append, List.getD_cons_zero, List.getD_cons_succ, D.bool_b, List.length_map, if_true, and_true, F13, R13, F24, F12401, R12401, leavesD, dp_enc, hk, lp24, wedgesD, List.length_map]
  exact ⟨fun _ => h0, fun _ => h1⟩
end Go.Proofs.Ytdehhmcfhaeheaa.rv
