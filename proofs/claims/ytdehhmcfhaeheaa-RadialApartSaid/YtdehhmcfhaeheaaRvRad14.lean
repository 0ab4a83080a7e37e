/-
  Radial drawings: the program's and the reference's places.
-/
import Derived.Test.YtdehhmcfhaeheaaRvRad13
namespace Go.Proofs.Ytdehhmcfhaeheaa.rv
open Go.RV

theorem mx_spec (l : List Int) : ∀ (k i : Nat) (m : Int), i + k = l.length → m ≤ mxF l i m ∧ (∀ j, i ≤ j → j < l.length → l.getD j 0 ≤ mxF l i m) ∧ (mxF l i m = m ∨ ∃ j, i ≤ j ∧ j < l.length ∧ mxF l i m = l.getD j 0) := by
  intro k
  induction k with
  | zero =>
    intro i m h
    have e : mxF l i m = m := by rw [mxF, show i = l.length by omega, fold_end]
    rw [e]
    exact ⟨Int.le_refl _, fun j h1 h2 => by omega, .inl rfl⟩
  | succ k ih =>
    intro i m h
    have e : mxF l i m = mxF l (i + 1) (max m (l.getD i 0)) := by rw [mxF, fold_next (by omega)]; rfl
    obtain ⟨h1, h2, h3⟩ := ih (i + 1) (max m (l.getD i 0)) (by omega)
    rw [e]
    refine ⟨by omega, fun j hj1 hj2 => ?_, ?_⟩
    · by_cases e : j = i
      · subst e; omega
      · exact h2 j (by omega) hj2
    · rcases h3 with h3 | ⟨j, hj1, hj2, h3⟩
      · by_cases hm : l.getD i 0 ≤ m
        · left; omega
        · right; exact ⟨i, by omega, by omega, by omega⟩
      · right; exact ⟨j, by omega, hj2, h3⟩
theorem div_anti {a b n : Int} (hn : 0 ≤ n) (h0 : 0 < a) (h : a ≤ b) : n / b ≤ n / a := by
  refine Int.le_ediv_of_mul_le h0 ?_
  have h1 := Int.ediv_nonneg hn (by omega : 0 ≤ b)
  have h2 := Int.mul_le_mul_of_nonneg_left h h1
  have h3 := Int.ediv_mul_le n (b := b) (by omega)
  omega
theorem far_max {p : List Int} (_hp : Forest p) (h0 : 0 < p.length) (s : Int) :
    (decide (0 < mxF (Rrow p) 1 ((Rrow p).getD 0 0)) && decide (1048576 / mxF (Rrow p) 1 ((Rrow p).getD 0 0) < s)) = anyN (tooFar p s) p.length := by
  have hlR : (Rrow p).length = p.length := rowF_len
  obtain ⟨h1, h2, h3⟩ := mx_spec (Rrow p) (p.length - 1) 1 ((Rrow p).getD 0 0) (by omega)
  have hall : ∀ j, j < p.length → rg p j ≤ mxF (Rrow p) 1 ((Rrow p).getD 0 0) := fun j hj => by
    have e : (Rrow p).getD j 0 = rg p j := rowF_get 0 hj
    by_cases e0 : j = 0
    · subst e0; rw [← e]; exact h1
    · have := h2 j (by omega) (by omega); omega
  have hone : ∃ j, j < p.length ∧ mxF (Rrow p) 1 ((Rrow p).getD 0 0) = rg p j := by
    rcases h3 with h3 | ⟨j, _, hj, h3⟩
    · exact ⟨0, h0, by rw [h3]; exact rowF_get 0 h0⟩
    · exact ⟨j, by omega, by rw [h3]; exact rowF_get 0 (by omega)⟩
  generalize mxF (Rrow p) 1 ((Rrow p).getD 0 0) = M at *
  rw [Bool.eq_iff_iff, anyN_iff]
  simp only [Bool.and_eq_true, decide_eq_true_eq, tooFar]
  constructor
  · rintro ⟨ha, hb⟩
    obtain ⟨j, hj, rfl⟩ := hone
    exact ⟨j, hj, ha, hb⟩
  · rintro ⟨j, hj, ha, hb⟩
    have := hall j hj
    have := div_anti (n := 1048576) (by omega) ha this
    omega
theorem coll_pts {p : List Int} {s : Int} : collN (stepsF (Arow p) (Rrow p) s) p.length 0 = rowF (pt p s) p.length := by
  rw [← coll_one]
  refine coll_congr fun j _ hj => ?_
  rw [stepsF, show (Arow p).getD j 0 = ang p j from rowF_get 0 hj, show (Rrow p).getD j 0 = rg p j from rowF_get 0 hj]
  rfl
theorem perr_good {p : List Int} {s : Int} (h : goodS p s) : perr p s = 0 := by
  rw [perr, if_pos ⟨okF_iff.2 h.1, h.2.1⟩, if_neg (by rw [h.2.2.2]; decide)]
theorem pts_good {p : List Int} {s : Int} (h : goodS p s) : pts p s = rowF (pt p s) p.length := by rw [pts, if_pos (perr_good h)]
theorem m14 : Meets Try.prog 14 S14 (R 14) (F 14) := by
  refine meets_of_vt (pre := R) (Φ := F) mixed (sgAt_all (P := Try.prog) (pre := R) (Φ := F) (l := sg14) (List.forall_mem_cons.2 ⟨Meets.at (pre := R) (Φ := F) m22, List.forall_mem_cons.2 ⟨Meets.at (pre := R) (Φ := F) m9, List.forall_mem_cons.2 ⟨Meets.at (pre := R) (Φ := F) m25, List.forall_mem_cons.2 ⟨Meets.at (pre := R) (Φ := F) m26, List.forall_mem_cons.2 ⟨Meets.at (pre := R) (Φ := F) m27, (fun _ h => nomatch h)⟩⟩⟩⟩⟩)) Try.func14 b14 n14 (loops_n 1 k14 fun k hk => match k, hk with | 0, _ => loop_this lf14_0 loopM14_0) e14 fun ds _ hq => ?_
  obtain ⟨p, s, rfl, hm, hs⟩ : plPre ds := hq
  have h0 : lPre [.l (p.map encI)] := ⟨p, rfl, hm⟩
  simp only [vt14, VT.ok, Nd.holds, X.outs, X.ds, X.d, Op1.ev, Op2.ev, takeD_zero, takeD_cons, List.cons_append, List.nil_append, List.getD_cons_zero, List.getD_cons_succ, D.int_i, D.bool_b, ite_b, ite_or, ite_and, F22, R22, F9, R9, F25, R25, F26, R26, F14, F11400, R11400, okD, dp_enc, angD, placeD]
  refine ⟨fun _ => h0, ?_⟩
  by_cases hk : okF p = true ∧ 0 ≤ s
  · obtain ⟨hk, hs0⟩ := hk
    have hf := okF_iff.1 hk
    have h64 := hf.1
    have h1 : fPre [.l (p.map encI)] := ⟨p, rfl, hf⟩
    have hlR : (Rrow p).length = p.length := rowF_len
    have hpre : goodS p s → pr14 [.i s, .l ((Arow p).map encI), .l ((Rrow p).map encI), .i (p.length : Int), .i 0, .l []] := fun hg => ⟨p, s, 0, [], rfl, hg, by omega, rfl⟩
    by_cases hn : 0 < p.length
    · have hmx : maxPre [.l ((Rrow p).map encI)] := ⟨_, rfl, by omega, by rw [maxLen_val]; omega⟩
      have hfm := far_max hf hn s
      generalize hM : mxF (Rrow p) 1 ((Rrow p).getD 0 0) = M at hfm
      have hdiv : (1048576 : Int).tdiv M = 1048576 / M := tdivp (by omega)
      have hdb : 0 < M → 0 ≤ 1048576 / M ∧ 1048576 / M ≤ 1048576 := fun h => ⟨Int.ediv_nonneg (by omega) (by omega), Int.ediv_le_self _ (by omega)⟩
      by_cases hM0 : 0 < M
      · have := hdb hM0
        cases ha : anyN (tooFar p s) p.length
        · have hg : goodS p s := ⟨hf, hs0, hs.2, ha⟩
          rw [ha, dlt_t hM0, Bool.true_and] at hfm
          simp (disch := omega) only [takeD_zero, takeD_cons, List.cons_append, List.nil_append, List.getD_cons_zero, List.getD_cons_succ, D.int_i, D.lst_l, List.length_map, Bool.false_eq_true, implies_true, true_and, and_true, ↓reduceIte, dlt_t, dlt_f, beq_f, w64', hk, hlR, maxD, dp_enc, ringD, hM, hdiv, hfm, Bool.not_true, Bool.not_false, Bool.or_self, Bool.and_false, lp14, List.map_nil, Int.toNat_zero, List.nil_append, coll_pts, perr_good hg, pts_good hg]
          exact ⟨fun _ => h0, fun _ => h1, fun _ => hmx, fun _ => hpre hg⟩
        · rw [ha, dlt_t hM0, Bool.true_and] at hfm
          have hpe : perr p s = 2 := by rw [perr, if_pos ⟨hk, hs0⟩, if_pos ha]
          have hpt : pts p s = [] := by rw [pts, if_neg (by rw [hpe]; decide)]
          simp (disch := omega) only [takeD_zero, takeD_cons, List.cons_append, List.nil_append, List.getD_cons_zero, List.getD_cons_succ, D.int_i, D.lst_l, List.length_map, Bool.false_eq_true, implies_true, true_and, ↓reduceIte, dlt_t, dlt_f, beq_f, w64', hk, hlR, maxD, dp_enc, ringD, hM, hdiv, hfm, Bool.not_true, Bool.not_false, Bool.or_self, hpe, hpt]
          exact ⟨fun _ => h0, fun _ => h1, fun _ => hmx, rfl⟩
      · have ha : anyN (tooFar p s) p.length = false := by rw [← hfm, dlt_f (by omega), Bool.false_and]
        have hg : goodS p s := ⟨hf, hs0, hs.2, ha⟩
        simp (disch := omega) only [takeD_zero, takeD_cons, List.cons_append, List.nil_append, List.getD_cons_zero, List.getD_cons_succ, D.int_i, D.lst_l, List.length_map, Bool.false_eq_true, and_true, ↓reduceIte, dlt_t, dlt_f, hk, hlR, maxD, dp_enc, ringD, hM, Bool.not_true, Bool.or_self, Bool.false_and, lp14, List.map_nil, Int.toNat_zero, List.nil_append, coll_pts, perr_good hg, pts_good hg]
        exact ⟨fun _ => h0, fun _ => h1, fun _ => hmx, fun h => h.elim, fun _ => hpre hg⟩
    · have e : p.length = 0 := by omega
      have ha : anyN (tooFar p s) p.length = false := anyN_false.2 fun j hj => by omega
      have hg : goodS p s := ⟨hf, hs0, hs.2, ha⟩
      simp (disch := omega) only [takeD_zero, takeD_cons, List.cons_append, List.nil_append, List.getD_cons_zero, List.getD_cons_succ, D.lst_l, List.length_map, Bool.false_eq_true, and_true, ↓reduceIte, dlt_f, hk, hlR, dp_enc, ringD, Bool.not_true, Bool.or_self, lp14, List.map_nil, Int.toNat_zero, List.nil_append, coll_pts, perr_good hg, pts_good hg]
      exact ⟨fun _ => h0, fun _ => h1, fun _ => hpre hg⟩
  · have hpe : perr p s = 1 := by rw [perr, if_neg hk]
    have hpt : pts p s = [] := by rw [pts, if_neg (by rw [hpe]; decide)]
    have hc : (!okF p || decide (s < 0)) = true := by
      cases h : okF p
      · rfl
      · rw [dlt_t (by rw [h] at hk; simp at hk; omega)]; rfl
    simp only [if_true, hc, hpe, hpt]
    rfl
end Go.Proofs.Ytdehhmcfhaeheaa.rv
