/-
  Chapter 54: what is hit, what lies in a box.
-/
import Derived.Test.YtpnfcopgmeggoaaRvSc5
import Derived.Test.YtpnfcopgmeggoaaRvSc8
namespace Go.Proofs.Ytpnfcopgmeggoaa.rv
open Go.RV

theorem loopM12_0 : LoopMeets Try.prog F (R L12_0.key) L12_0 lb12_0 := by
  refine loop_meets (pre := R) mixed (sgAt_all (P := Try.prog) (pre := R) (Φ := F) (l := sg12) ((fun _ h => nomatch h))) (loops_n 0 lk12_0 fun k hk => by omega) L12_0 (fun ρ => (((ρ.getD 0 default).lst.length : Int) - (ρ.getD 3 default).int).toNat) le12_0 fun ρ _ hq => ?_
  obtain ⟨xs, ys, v, j, rfl, hj, hm, hl⟩ : prSI ρ := hq
  rw [maxLen_val] at hm
  by_cases hlt : j < xs.length
  · simp (disch := omega) only [rt12_0, VT.ok, Nd.holds, X.ds, X.d, Op1.ev, Op2.ev, List.getD_cons_zero, List.getD_cons_succ, D.int_i, D.bool_b, D.lst_l, Int.toNat_natCast, implies_true, true_and, ↓reduceIte, dle_t, dlt_t, w64']
    show if (!sameI1 (el xs j) (el ys j)) = true then _ else _
    cases hb : sameI1 (el xs j) (el ys j)
    · simp only [Bool.not_false, if_true]
      refine round_exit (by omega) ?_
      show lpSI [.l xs, .l ys, v, .i (j : Int)] = _
      simp only [lpSI, Int.toNat_natCast]
      exact scan_hit hlt (by rw [hb]; rfl)
    · simp only [Bool.not_true, Bool.false_eq_true, if_false]
      refine round_next ⟨⟨xs, ys, v, j + 1, rfl, by omega, hm, hl⟩, ?_, ?_⟩
      · show ((xs.length : Int) - ((j + 1 : Nat) : Int)).toNat < ((xs.length : Int) - (j : Int)).toNat
        omega
      · show lpSI [.l xs, .l ys, v, .i ((j + 1 : Nat) : Int)] = lpSI [.l xs, .l ys, v, .i (j : Int)]
        simp only [lpSI, Int.toNat_natCast]
        exact scan_next hlt (by rw [hb]; rfl)
  · have hj' : j = xs.length := by omega
    subst hj'
    simp (disch := omega) only [rt12_0, VT.ok, X.ds, X.d, Op1.ev, Op2.ev, List.getD_cons_zero, List.getD_cons_succ, D.int_i, D.bool_b, D.lst_l, Bool.false_eq_true, ↓reduceIte, dlt_f]
    refine round_exit (by omega) ?_
    show lpSI [.l xs, .l ys, v, .i (xs.length : Int)] = _
    simp only [lpSI, Int.toNat_natCast]
    exact scan_end
theorem m12 : Meets Try.prog 12 S12 (R 12) (F 12) := by
  refine meets_of_vt (pre := R) (Φ := F) mixed (sgAt_all (P := Try.prog) (pre := R) (Φ := F) (l := sg12) ((fun _ h => nomatch h))) Try.func12 b12 n12 (loops_n 1 k12 fun k hk => match k, hk with | 0, _ => loop_this lf12_0 loopM12_0) e12 fun ds hf hq => ?_
  obtain ⟨x, y, rfl, hx, hy⟩ := fits2 hf.flat
  obtain ⟨xs, rfl, hm, _⟩ := wf_sl hx
  obtain ⟨ys, rfl, hm', _⟩ := wf_sl hy
  by_cases hl : ys.length = xs.length
  · have hpre : prSI [.l xs, .l ys, .b false, .i 0] := ⟨xs, ys, _, 0, rfl, by omega, hm, hl⟩
    simp (disch := omega) only [vt12, VT.ok, Nd.holds, X.outs, X.ds, X.d, Op1.ev, Op2.ev, List.cons_append, List.nil_append, List.getD_cons_zero, List.getD_cons_succ, D.int_i, D.bool_b, D.lst_l, Bool.false_eq_true, F11200, R11200, F12, ↓reduceIte, beq_t, Bool.not_true, eqFn, eqR, cL]
    refine ⟨fun _ => hpre, ?_⟩
    simp only [lpSI, Int.toNat_zero, Nat.sub_zero]
    rcases scan_two (p := fun j => !sameI1 (el xs j) (el ys j)) xs.length with ⟨h1, j, _, _, _, h⟩ | ⟨h1, h⟩
    · simp only [h, h1]; rfl
    · simp only [h, h1]; rfl
  · simp (disch := omega) only [vt12, VT.ok, X.ds, X.d, Op1.ev, Op2.ev, List.getD_cons_zero, List.getD_cons_succ, D.int_i, D.bool_b, D.lst_l, F12, ↓reduceIte, beq_f, Bool.not_false, eqFn, eqR, cL, Bool.false_and]
theorem loopM20_0 : LoopMeets Try.prog F (R L20_0.key) L20_0 lb20_0 := by
  refine loop_meets (pre := R) mixed (sgAt_all (P := Try.prog) (pre := R) (Φ := F) (l := sg20) ((fun _ h => nomatch h))) (loops_n 0 lk20_0 fun k hk => by omega) L20_0 (fun ρ => (((ρ.getD 0 default).lst.length : Int) - (ρ.getD 3 default).int).toNat) le20_0 fun ρ _ hq => ?_
  obtain ⟨xs, m, v, j, rfl, hj, hm⟩ : prHs ρ := hq
  rw [maxLen_val] at hm
  by_cases hlt : j < xs.length
  · simp (disch := omega) only [rt20_0, VT.ok, Nd.holds, X.ds, X.d, Op1.ev, Op2.ev, List.getD_cons_zero, List.getD_cons_succ, D.int_i, D.bool_b, D.lst_l, Int.toNat_natCast, implies_true, true_and, ↓reduceIte, dle_t, dlt_t, w64']
    show if (cI (el xs j) 0 == m) = true then _ else _
    cases hb : (cI (el xs j) 0 == m)
    · simp only [Bool.false_eq_true, if_false]
      refine round_next ⟨⟨xs, m, v, j + 1, rfl, by omega, hm⟩, ?_, ?_⟩
      · show ((xs.length : Int) - ((j + 1 : Nat) : Int)).toNat < ((xs.length : Int) - (j : Int)).toNat
        omega
      · show lpHs [.l xs, .i m, v, .i ((j + 1 : Nat) : Int)] = lpHs [.l xs, .i m, v, .i (j : Int)]
        simp only [lpHs, Int.toNat_natCast]
        exact scan_next hlt hb
    · simp only [if_true]
      refine round_exit (by omega) ?_
      show lpHs [.l xs, .i m, v, .i (j : Int)] = _
      simp only [lpHs, Int.toNat_natCast]
      exact scan_hit hlt hb
  · have hj' : j = xs.length := by omega
    subst hj'
    simp (disch := omega) only [rt20_0, VT.ok, X.ds, X.d, Op1.ev, Op2.ev, List.getD_cons_zero, List.getD_cons_succ, D.int_i, D.bool_b, D.lst_l, Bool.false_eq_true, ↓reduceIte, dlt_f]
    refine round_exit (by omega) ?_
    show lpHs [.l xs, .i m, v, .i (xs.length : Int)] = _
    simp only [lpHs, Int.toNat_natCast]
    exact scan_end
theorem m20 : Meets Try.prog 20 S20 (R 20) (F 20) := by
  refine meets_of_vt (pre := R) (Φ := F) mixed (sgAt_all (P := Try.prog) (pre := R) (Φ := F) (l := sg20) ((fun _ h => nomatch h))) Try.func20 b20 n20 (loops_n 1 k20 fun k hk => match k, hk with | 0, _ => loop_this lf20_0 loopM20_0) e20 fun ds hf hq => ?_
  obtain ⟨x, y, rfl, hx, hy⟩ := fits2 hf.flat
  obtain ⟨xs, rfl, hm, _⟩ := wf_sl hx
  obtain ⟨m, rfl, _⟩ := wf_i64 hy
  have hpre : prHs [.l xs, .i m, .b false, .i 0] := ⟨xs, m, _, 0, rfl, by omega, hm⟩
  simp only [vt20, VT.ok, Nd.holds, X.outs, X.ds, X.d, Op2.ev, List.cons_append, List.nil_append, List.getD_cons_zero, List.getD_cons_succ, D.int_i, D.bool_b, F12000, R12000, F20]
  refine ⟨fun _ => hpre, ?_⟩
  simp only [lpHs, hsD, Int.toNat_zero, Nat.sub_zero, cL, cI, List.getD_cons_zero, List.getD_cons_succ, D.lst_l, D.int_i]
  rcases scan_two (p := fun j => ((el xs j).getD 0 default).int == m) xs.length with ⟨h1, j, _, _, _, h⟩ | ⟨h1, h⟩ <;> simp (disch := omega) only [h, h1, takeD_zero, takeD_cons, List.getD_cons_zero, List.getD_cons_succ, D.int_i, Bool.false_eq_true, ↓reduceIte, beq_t, beq_f]
theorem loopM11_0 : LoopMeets Try.prog F (R L11_0.key) L11_0 lb11_0 := by
  refine loop_meets (pre := R) mixed (sgAt_all (P := Try.prog) (pre := R) (Φ := F) (l := sg11) ((fun _ h => nomatch h))) (loops_n 0 lk11_0 fun k hk => by omega) L11_0 (fun ρ => (((ρ.getD 6 default).lst.length : Int) - (ρ.getD 1 default).int).toNat) le11_0 fun ρ _ hq => ?_
  obtain ⟨v, a, b, c, d, I, j, rfl, hj, hm⟩ : prSmall ρ := hq
  rw [maxLen_val] at hm
  by_cases hlt : j < I.length
  · simp (disch := omega) only [rt11_0, VT.ok, Nd.holds, X.ds, X.d, Op1.ev, Op2.ev, List.getD_cons_zero, List.getD_cons_succ, D.int_i, D.bool_b, D.lst_l, ite_b, ite_or, Int.toNat_natCast, implies_true, true_and, ↓reduceIte, dle_t, dlt_t, w64']
    show if smallP I j = true then _ else _
    cases hb : smallP I j
    · simp only [Bool.false_eq_true, if_false]
      refine round_next ⟨⟨v, a, b, c, d, I, j + 1, rfl, by omega, hm⟩, ?_, ?_⟩
      · show ((I.length : Int) - ((j + 1 : Nat) : Int)).toNat < ((I.length : Int) - (j : Int)).toNat
        omega
      · show lpSmall [v, .i ((j + 1 : Nat) : Int), a, b, c, d, .l I] = lpSmall [v, .i (j : Int), a, b, c, d, .l I]
        simp only [lpSmall, Int.toNat_natCast]
        exact scan_next hlt hb
    · simp only [if_true]
      refine round_exit (by omega) ?_
      show lpSmall [v, .i (j : Int), a, b, c, d, .l I] = _
      simp only [lpSmall, Int.toNat_natCast]
      exact scan_hit hlt hb
  · have hj' : j = I.length := by omega
    subst hj'
    simp (disch := omega) only [rt11_0, VT.ok, X.ds, X.d, Op1.ev, Op2.ev, List.getD_cons_zero, List.getD_cons_succ, D.int_i, D.bool_b, D.lst_l, Bool.false_eq_true, ↓reduceIte, dlt_f]
    refine round_exit (by omega) ?_
    show lpSmall [v, .i (I.length : Int), a, b, c, d, .l I] = _
    simp only [lpSmall, Int.toNat_natCast]
    exact scan_end
theorem m11 : Meets Try.prog 11 S11 (R 11) (F 11) := by
  refine meets_of_vt (pre := R) (Φ := F) mixed (sgAt_all (P := Try.prog) (pre := R) (Φ := F) (l := sg11) ((fun _ h => nomatch h))) Try.func11 b11 n11 (loops_n 1 k11 fun k hk => match k, hk with | 0, _ => loop_this lf11_0 loopM11_0) e11 fun ds hf _ => ?_
  obtain ⟨a, b, c, d, I, ds', rfl, h5, hm, hfx⟩ := fitsS hf.flat
  obtain rfl := fits0 h5
  have hF : F 11 [.i a, .i b, .i c, .i d, .l I] = [.b (smallB I)] := rfl
  rw [hF]
  have hpre : prSmall [.b false, .i 0, .i a, .i b, .i c, .i d, .l I] := ⟨_, _, _, _, _, I, 0, rfl, by omega, hm⟩
  by_cases h1 : 40 < (I.length : Int)
  · simp (disch := omega) only [vt11, VT.ok, X.ds, X.d, Op1.ev, Op2.ev, List.getD_cons_zero, List.getD_cons_succ, D.int_i, D.bool_b, D.lst_l, ↓reduceIte, dlt_t, smallB, Bool.not_true, Bool.false_and]
  · simp (disch := omega) only [vt11, VT.ok, Nd.holds, X.outs, X.ds, X.d, Op1.ev, Op2.ev, List.cons_append, List.nil_append, List.getD_cons_zero, List.getD_cons_succ, D.int_i, D.bool_b, D.lst_l, Bool.false_eq_true, F11100, R11100, ↓reduceIte, dlt_f, smallB, Bool.not_false, Bool.true_and]
    refine ⟨fun _ => hpre, ?_⟩
    rcases scan_two (p := smallP I) I.length with ⟨h1, j, _, _, _, h⟩ | ⟨h1, h⟩
    · have e : lpSmall [.b false, .i 0, .i a, .i b, .i c, .i d, .l I] = [.i 0, .b false, .i (j : Int)] := h _ _
      rw [e, h1]; rfl
    · have e : lpSmall [.b false, .i 0, .i a, .i b, .i c, .i d, .l I] = [.i 1, .b false, .i (I.length : Int)] := h _ _
      rw [e, h1]; rfl

/-! ### what is hit -/
theorem fits11 {c0 c1 c2 c3 c4 c5 c6 c7 c8 c9 c10 : CT} {ds : List D} (h : FitsF [c0, c1, c2, c3, c4, c5, c6, c7, c8, c9, c10] ds) : ∃ a b c d e f g i x y t, ds = [a, b, c, d, e, f, g, i, x, y, t] := by
  match ds, h with
  | [a, b, c, d, e, f, g, i, x, y, t], _ => exact ⟨a, b, c, d, e, f, g, i, x, y, t, rfl⟩
theorem m31 : Meets Try.prog 31 S31 (R 31) (F 31) := by
  refine meets_of_vt (pre := R) (Φ := F) mixed (sgAt_all (P := Try.prog) (pre := R) (Φ := F) (l := sg31) (List.forall_mem_cons.2 ⟨Meets.at (pre := R) (Φ := F) m9, List.forall_mem_cons.2 ⟨Meets.at (pre := R) (Φ := F) m53, (fun _ h => nomatch h)⟩⟩)) Try.func31 b31 n31 (loops_n 0 k31 fun k hk => by omega) e31 fun ds hf _ => ?_
  obtain ⟨a, b, c, d, e, f, g, i, x, y, t, rfl⟩ := fits11 hf.flat
  have hF : F 31 [a, b, c, d, e, f, g, i, x, y, t] = [.b (if a.int = 3 then nearB g.lst x.int y.int t.int else hasB (c.int, d.int, e.int, f.int) x.int y.int)] := rfl
  rw [hF]
  by_cases hk : a.int = 3
  · rw [if_pos hk]
    simp (disch := omega) only [vt31, VT.ok, Nd.holds, X.outs, X.ds, X.d, Op2.ev, takeD_zero, takeD_cons, List.cons_append, List.nil_append, List.getD_cons_zero, List.getD_cons_succ, D.int_i, D.bool_b, implies_true, and_true, F9, R9, ↓reduceIte, beq_t, nearD, cL, cI]
  · rw [if_neg hk]
    simp (disch := omega) only [vt31, VT.ok, Nd.holds, X.outs, X.ds, X.d, Op2.ev, takeD_zero, takeD_cons, List.cons_append, List.nil_append, List.getD_cons_zero, List.getD_cons_succ, D.int_i, D.bool_b, Bool.false_eq_true, implies_true, and_true, F53, R53, ↓reduceIte, beq_f, fn53_eq]
theorem m32 : Meets Try.prog 32 S32 (R 32) (F 32) := by
  refine meets_of_vt (pre := R) (Φ := F) mixed (sgAt_all (P := Try.prog) (pre := R) (Φ := F) (l := sg32) (List.forall_mem_cons.2 ⟨Meets.at (pre := R) (Φ := F) m10, List.forall_mem_cons.2 ⟨Meets.at (pre := R) (Φ := F) m54, (fun _ h => nomatch h)⟩⟩)) Try.func32 b32 n32 (loops_n 0 k32 fun k hk => by omega) e32 fun ds hf _ => ?_
  obtain ⟨a, b, c, d, e, f, g, i, x, y, t, rfl⟩ := fits11 hf.flat
  have hF : F 32 [a, b, c, d, e, f, g, i, x, y, t] = [.b (if a.int = 3 then nearB g.lst x.int y.int t.int else hasB (c.int, d.int, e.int, f.int) x.int y.int)] := rfl
  rw [hF]
  by_cases hk : a.int = 3
  · rw [if_pos hk]
    simp (disch := omega) only [vt32, VT.ok, Nd.holds, X.outs, X.ds, X.d, Op2.ev, takeD_zero, takeD_cons, List.cons_append, List.nil_append, List.getD_cons_zero, List.getD_cons_succ, D.int_i, D.bool_b, implies_true, and_true, F10, R10, ↓reduceIte, beq_t, nearD, cL, cI]
  · rw [if_neg hk]
    simp (disch := omega) only [vt32, VT.ok, Nd.holds, X.outs, X.ds, X.d, Op2.ev, takeD_zero, takeD_cons, List.cons_append, List.nil_append, List.getD_cons_zero, List.getD_cons_succ, D.int_i, D.bool_b, Bool.false_eq_true, implies_true, and_true, F54, R54, ↓reduceIte, beq_f, fn54_eq]
theorem dn_at (k : Nat) : ((k : Int) - 1 + 1).toNat = k := by omega
theorem hit_cells (I : List (List D)) (j : Nat) (px py t : Int) : hitD [(I.getD j []).getD 0 default, (I.getD j []).getD 1 default, (I.getD j []).getD 2 default, (I.getD j []).getD 3 default, (I.getD j []).getD 4 default, (I.getD j []).getD 5 default, (I.getD j []).getD 6 default, (I.getD j []).getD 7 default, .i px, .i py, .i t] = [.b (hitJ I px py t j)] := rfl
theorem loopM13_0 : LoopMeets Try.prog F (R L13_0.key) L13_0 lb13_0 := by
  refine loop_meets (pre := R) mixed (sgAt_all (P := Try.prog) (pre := R) (Φ := F) (l := sg13) (List.forall_mem_cons.2 ⟨Meets.at (pre := R) (Φ := F) m30, List.forall_mem_cons.2 ⟨Meets.at (pre := R) (Φ := F) m23, List.forall_mem_cons.2 ⟨Meets.at (pre := R) (Φ := F) m24, List.forall_mem_cons.2 ⟨Meets.at (pre := R) (Φ := F) m31, (fun _ h => nomatch h)⟩⟩⟩⟩)) (loops_n 0 lk13_0 fun k hk => by omega) L13_0 (fun ρ => ((ρ.getD 1 default).int + 1).toNat) le13_0 fun ρ _ hq => ?_
  obtain ⟨t, a, b, c, d, I, px, py, acc, k, rfl, hk, hm, hac⟩ : prAl ρ := hq
  cases k with
  | zero =>
    simp (disch := omega) only [rt13_0, VT.ok, X.ds, X.d, Op2.ev, List.getD_cons_zero, List.getD_cons_succ, D.int_i, D.bool_b, Bool.false_eq_true, ↓reduceIte, dle_f]
    refine round_exit (by omega) ?_
    show lpAl [.i t, .i (((0 : Nat) : Int) - 1), a, b, c, d, .l I, .i px, .i py, .l acc] = _
    simp only [lpAl, dn_at, down_zero]
    rfl
  | succ j =>
    have e : ((j + 1 : Nat) : Int) - 1 = (j : Int) := by omega
    rw [e]
    have hlt : j < I.length := by omega
    have hn : ∀ acc' : List (List D), acc ++ one1 (hitJ I px py t) j = acc' → RoundOk F (R L13_0.key) (fun ρ => ((ρ.getD 1 default).int + 1).toNat) L13_0 [.i t, .i (j : Int), a, b, c, d, .l I, .i px, .i py, .l acc] [.i (-1), .i ((j : Int) - 1), .l acc'] := fun acc' h => by
      subst h
      refine round_next ⟨⟨t, a, b, c, d, I, px, py, _, j, rfl, by omega, hm, ?_⟩, ?_, ?_⟩
      · have := one1_len (hitJ I px py t) j
        rw [List.length_append]; omega
      · show ((j : Int) - 1 + 1).toNat < ((j : Int) + 1).toNat
        omega
      · show lpAl [.i t, .i ((j : Int) - 1), a, b, c, d, .l I, .i px, .i py, .l (acc ++ one1 (hitJ I px py t) j)] = lpAl [.i t, .i (j : Int), a, b, c, d, .l I, .i px, .i py, .l acc]
        simp only [lpAl, dn_at]
        rw [show ((j : Int) + 1).toNat = j + 1 by omega, down_next]
    cases hh : hitJ I px py t j
    · have hc : hitD [(I.getD j []).getD 0 default, (I.getD j []).getD 1 default, (I.getD j []).getD 2 default, (I.getD j []).getD 3 default, (I.getD j []).getD 4 default, (I.getD j []).getD 5 default, (I.getD j []).getD 6 default, (I.getD j []).getD 7 default, .i px, .i py, .i t] = [.b false] := by rw [hit_cells, hh]
      simp (disch := omega) only [rt13_0, VT.ok, Nd.holds, X.outs, X.ds, X.d, Op1.ev, Op2.ev, takeD_zero, takeD_cons, List.cons_append, List.nil_append, List.getD_cons_zero, List.getD_cons_succ, D.int_i, D.bool_b, D.lst_l, Int.toNat_natCast, Bool.false_eq_true, implies_true, true_and, F31, R31, ↓reduceIte, dle_t, dlt_t, w64', hc]
      exact hn acc (by rw [one1, hh]; exact List.append_nil _)
    · have hc : hitD [(I.getD j []).getD 0 default, (I.getD j []).getD 1 default, (I.getD j []).getD 2 default, (I.getD j []).getD 3 default, (I.getD j []).getD 4 default, (I.getD j []).getD 5 default, (I.getD j []).getD 6 default, (I.getD j []).getD 7 default, .i px, .i py, .i t] = [.b true] := by rw [hit_cells, hh]
      simp (disch := omega) only [rt13_0, VT.ok, Nd.holds, X.outs, X.ds, X.d, Op1.ev, Op2.ev, takeD_zero, takeD_cons, List.cons_append, List.nil_append, List.getD_cons_zero, List.getD_cons_succ, D.int_i, D.bool_b, D.lst_l, Int.toNat_natCast, implies_true, true_and, F31, R31, ↓reduceIte, dle_t, dlt_t, w64', hc, List.length_append, List.length_cons, List.length_nil]
      exact hn _ (by rw [one1, hh]; rfl)
theorem m13 : Meets Try.prog 13 S13 (R 13) (F 13) := by
  refine meets_of_vt (pre := R) (Φ := F) mixed (sgAt_all (P := Try.prog) (pre := R) (Φ := F) (l := sg13) (List.forall_mem_cons.2 ⟨Meets.at (pre := R) (Φ := F) m30, List.forall_mem_cons.2 ⟨Meets.at (pre := R) (Φ := F) m23, List.forall_mem_cons.2 ⟨Meets.at (pre := R) (Φ := F) m24, List.forall_mem_cons.2 ⟨Meets.at (pre := R) (Φ := F) m31, (fun _ h => nomatch h)⟩⟩⟩⟩)) Try.func13 b13 n13 (loops_n 1 k13 fun k hk => match k, hk with | 0, _ => loop_this lf13_0 loopM13_0) e13 fun ds hf _ => ?_
  obtain ⟨a, b, c, d, I, ds', rfl, h5, hm, hfx⟩ := fitsS hf.flat
  obtain ⟨x, y, z, rfl, hx, hy, hz⟩ := fits3 h5
  obtain ⟨px, rfl, _⟩ := wf_i64 hx
  obtain ⟨py, rfl, _⟩ := wf_i64 hy
  obtain ⟨t, rfl, _⟩ := wf_i64 hz
  have hF : F 13 [.i a, .i b, .i c, .i d, .l I, .i px, .i py, .i t] = [.l (allR I (a, b, c, d) px py t)] := rfl
  have hval : valD [.i a, .i b, .i c, .i d, .l I] = [.i (validS I (a, b, c, d))] := rfl
  rw [hF]
  cases h1 : ((validS I (a, b, c, d) == 0) && ptB px py && tlB t)
  · rw [allR, h1]
    have hc : ((!(validS I (a, b, c, d) == 0) || !ptB px py) || !tlB t) = true := by
      cases h2 : (validS I (a, b, c, d) == 0) <;> cases h3 : ptB px py <;> cases h4 : tlB t <;> first | rfl | (rw [h2, h3, h4] at h1; cases h1)
    simp only [vt13, VT.ok, Nd.holds, X.outs, X.ds, X.d, Op1.ev, Op2.ev, takeD_zero, takeD_cons, List.cons_append, List.nil_append, List.getD_cons_zero, List.getD_cons_succ, D.int_i, D.bool_b, D.lst_l, ite_b, ite_or, if_true, Bool.false_eq_true, if_false, implies_true, and_true, F23, R23, F30, R30, F24, R24, F11300, R11300, hval, fn23_eq, fn24_eq, hc]
  · rw [allR, h1, if_pos rfl]
    simp only [Bool.and_eq_true, beq_iff_eq] at h1
    obtain ⟨⟨h2, h3⟩, h4⟩ := h1
    have hl := (validS_iff.1 h2).1
    have hpre : prAl [.i t, .i ((I.length : Int) - 1), .i a, .i b, .i c, .i d, .l I, .i px, .i py, .l []] := ⟨t, _, _, _, _, I, px, py, [], I.length, rfl, by omega, hl, by simp; omega⟩
    have hlp : lpAl [.i t, .i ((I.length : Int) - 1), .i a, .i b, .i c, .i d, .l I, .i px, .i py, .l []] = [.i 0, .i (-1), .l (downN (one1 (hitJ I px py t)) I.length)] := by
      simp only [lpAl, dn_at, List.nil_append]
    simp (disch := omega) only [vt13, VT.ok, Nd.holds, X.outs, X.ds, X.d, Op1.ev, Op2.ev, takeD_zero, takeD_cons, List.cons_append, List.nil_append, List.getD_cons_zero, List.getD_cons_succ, D.int_i, D.bool_b, D.lst_l, Bool.false_eq_true, implies_true, true_and, and_true, F23, R23, F30, R30, F24, R24, F11300, R11300, ↓reduceIte, w64', hval, fn23_eq, fn24_eq, h2, h3, h4, Bool.not_true, hlp, beq_self_eq_true]
    exact fun _ => hpre
theorem loopM14_0 : LoopMeets Try.prog F (R L14_0.key) L14_0 lb14_0 := by
  refine loop_meets (pre := R) mixed (sgAt_all (P := Try.prog) (pre := R) (Φ := F) (l := sg14) (List.forall_mem_cons.2 ⟨Meets.at (pre := R) (Φ := F) m17, List.forall_mem_cons.2 ⟨Meets.at (pre := R) (Φ := F) m27, List.forall_mem_cons.2 ⟨Meets.at (pre := R) (Φ := F) m28, List.forall_mem_cons.2 ⟨Meets.at (pre := R) (Φ := F) m32, (fun _ h => nomatch h)⟩⟩⟩⟩)) (loops_n 0 lk14_0 fun k hk => by omega) L14_0 (fun ρ => ((ρ.getD 1 default).int + 1).toNat) le14_0 fun ρ _ hq => ?_
  obtain ⟨t, a, b, c, d, I, px, py, acc, k, rfl, hk, hm, hac⟩ : prAl ρ := hq
  cases k with
  | zero =>
    simp (disch := omega) only [rt14_0, VT.ok, X.ds, X.d, Op2.ev, List.getD_cons_zero, List.getD_cons_succ, D.int_i, D.bool_b, Bool.false_eq_true, ↓reduceIte, dle_f]
    refine round_exit (by omega) ?_
    show lpAl [.i t, .i (((0 : Nat) : Int) - 1), a, b, c, d, .l I, .i px, .i py, .l acc] = _
    simp only [lpAl, dn_at, down_zero]
    rfl
  | succ j =>
    have e : ((j + 1 : Nat) : Int) - 1 = (j : Int) := by omega
    rw [e]
    have hlt : j < I.length := by omega
    have hn : ∀ acc' : List (List D), acc ++ one1 (hitJ I px py t) j = acc' → RoundOk F (R L14_0.key) (fun ρ => ((ρ.getD 1 default).int + 1).toNat) L14_0 [.i t, .i (j : Int), a, b, c, d, .l I, .i px, .i py, .l acc] [.i (-1), .i ((j : Int) - 1), .l acc'] := fun acc' h => by
      subst h
      refine round_next ⟨⟨t, a, b, c, d, I, px, py, _, j, rfl, by omega, hm, ?_⟩, ?_, ?_⟩
      · have := one1_len (hitJ I px py t) j
        rw [List.length_append]; omega
      · show ((j : Int) - 1 + 1).toNat < ((j : Int) + 1).toNat
        omega
      · show lpAl [.i t, .i ((j : Int) - 1), a, b, c, d, .l I, .i px, .i py, .l (acc ++ one1 (hitJ I px py t) j)] = lpAl [.i t, .i (j : Int), a, b, c, d, .l I, .i px, .i py, .l acc]
        simp only [lpAl, dn_at]
        rw [show ((j : Int) + 1).toNat = j + 1 by omega, down_next]
    cases hh : hitJ I px py t j
    · have hc : hitD [(I.getD j []).getD 0 default, (I.getD j []).getD 1 default, (I.getD j []).getD 2 default, (I.getD j []).getD 3 default, (I.getD j []).getD 4 default, (I.getD j []).getD 5 default, (I.getD j []).getD 6 default, (I.getD j []).getD 7 default, .i px, .i py, .i t] = [.b false] := by rw [hit_cells, hh]
      simp (disch := omega) only [rt14_0, VT.ok, Nd.holds, X.outs, X.ds, X.d, Op1.ev, Op2.ev, takeD_zero, takeD_cons, List.cons_append, List.nil_append, List.getD_cons_zero, List.getD_cons_succ, D.int_i, D.bool_b, D.lst_l, Int.toNat_natCast, Bool.false_eq_true, implies_true, true_and, F32, R32, ↓reduceIte, dle_t, dlt_t, w64', hc]
      exact hn acc (by rw [one1, hh]; exact List.append_nil _)
    · have hc : hitD [(I.getD j []).getD 0 default, (I.getD j []).getD 1 default, (I.getD j []).getD 2 default, (I.getD j []).getD 3 default, (I.getD j []).getD 4 default, (I.getD j []).getD 5 default, (I.getD j []).getD 6 default, (I.getD j []).getD 7 default, .i px, .i py, .i t] = [.b true] := by rw [hit_cells, hh]
      simp (disch := omega) only [rt14_0, VT.ok, Nd.holds, X.outs, X.ds, X.d, Op1.ev, Op2.ev, takeD_zero, takeD_cons, List.cons_append, List.nil_append, List.getD_cons_zero, List.getD_cons_succ, D.int_i, D.bool_b, D.lst_l, Int.toNat_natCast, implies_true, true_and, F32, R32, ↓reduceIte, dle_t, dlt_t, w64', hc, List.length_append, List.length_cons, List.length_nil]
      exact hn _ (by rw [one1, hh]; rfl)
theorem m14 : Meets Try.prog 14 S14 (R 14) (F 14) := by
  refine meets_of_vt (pre := R) (Φ := F) mixed (sgAt_all (P := Try.prog) (pre := R) (Φ := F) (l := sg14) (List.forall_mem_cons.2 ⟨Meets.at (pre := R) (Φ := F) m17, List.forall_mem_cons.2 ⟨Meets.at (pre := R) (Φ := F) m27, List.forall_mem_cons.2 ⟨Meets.at (pre := R) (Φ := F) m28, List.forall_mem_cons.2 ⟨Meets.at (pre := R) (Φ := F) m32, (fun _ h => nomatch h)⟩⟩⟩⟩)) Try.func14 b14 n14 (loops_n 1 k14 fun k hk => match k, hk with | 0, _ => loop_this lf14_0 loopM14_0) e14 fun ds hf _ => ?_
  obtain ⟨a, b, c, d, I, ds', rfl, h5, hm, hfx⟩ := fitsS hf.flat
  obtain ⟨x, y, z, rfl, hx, hy, hz⟩ := fits3 h5
  obtain ⟨px, rfl, _⟩ := wf_i64 hx
  obtain ⟨py, rfl, _⟩ := wf_i64 hy
  obtain ⟨t, rfl, _⟩ := wf_i64 hz
  have hF : F 14 [.i a, .i b, .i c, .i d, .l I, .i px, .i py, .i t] = [.l (allR I (a, b, c, d) px py t)] := rfl
  have hval : valD [.i a, .i b, .i c, .i d, .l I] = [.i (validS I (a, b, c, d))] := rfl
  rw [hF]
  cases h1 : ((validS I (a, b, c, d) == 0) && ptB px py && tlB t)
  · rw [allR, h1]
    have hc : ((!(validS I (a, b, c, d) == 0) || !ptB px py) || !tlB t) = true := by
      cases h2 : (validS I (a, b, c, d) == 0) <;> cases h3 : ptB px py <;> cases h4 : tlB t <;> first | rfl | (rw [h2, h3, h4] at h1; cases h1)
    simp only [vt14, VT.ok, Nd.holds, X.outs, X.ds, X.d, Op1.ev, Op2.ev, takeD_zero, takeD_cons, List.cons_append, List.nil_append, List.getD_cons_zero, List.getD_cons_succ, D.int_i, D.bool_b, D.lst_l, ite_b, ite_or, if_true, Bool.false_eq_true, if_false, implies_true, and_true, F27, R27, F17, R17, F28, R28, F11400, R11400, hval, fn27_eq, fn28_eq, hc]
  · rw [allR, h1, if_pos rfl]
    simp only [Bool.and_eq_true, beq_iff_eq] at h1
    obtain ⟨⟨h2, h3⟩, h4⟩ := h1
    have hl := (validS_iff.1 h2).1
    have hpre : prAl [.i t, .i ((I.length : Int) - 1), .i a, .i b, .i c, .i d, .l I, .i px, .i py, .l []] := ⟨t, _, _, _, _, I, px, py, [], I.length, rfl, by omega, hl, by simp; omega⟩
    have hlp : lpAl [.i t, .i ((I.length : Int) - 1), .i a, .i b, .i c, .i d, .l I, .i px, .i py, .l []] = [.i 0, .i (-1), .l (downN (one1 (hitJ I px py t)) I.length)] := by
      simp only [lpAl, dn_at, List.nil_append]
    simp (disch := omega) only [vt14, VT.ok, Nd.holds, X.outs, X.ds, X.d, Op1.ev, Op2.ev, takeD_zero, takeD_cons, List.cons_append, List.nil_append, List.getD_cons_zero, List.getD_cons_succ, D.int_i, D.bool_b, D.lst_l, Bool.false_eq_true, implies_true, true_and, and_true, F27, R27, F17, R17, F28, R28, F11400, R11400, ↓reduceIte, w64', hval, fn27_eq, fn28_eq, h2, h3, h4, Bool.not_true, hlp, beq_self_eq_true]
    exact fun _ => hpre
theorem all_rows {I : List (List D)} {b : Bx} {px py t : Int} : ∀ x ∈ allR I b px py t, ∃ j : Nat, j < I.length ∧ x = [.i (j : Int)] := by
  intro x hx
  unfold allR at hx
  split at hx
  · rw [mem_down] at hx
    obtain ⟨j, hj, hx⟩ := hx
    unfold one1 at hx
    split at hx
    · exact ⟨j, hj, by simpa using hx⟩
    · cases hx
  · cases hx
theorem all_cell {I : List (List D)} {b : Bx} {px py t : Int} {i : Nat} (h : i < (allR I b px py t).length) : ((allR I b px py t).getD i []).getD 0 default = .i (cI (el (allR I b px py t) i) 0) := by
  obtain ⟨j, _, e⟩ := all_rows _ (getD_mem [] h)
  rw [cI, el, e]; rfl
theorem m15 : Meets Try.prog 15 S15 (R 15) (F 15) := by
  refine meets_of_vt (pre := R) (Φ := F) mixed (sgAt_all (P := Try.prog) (pre := R) (Φ := F) (l := sg15) (List.forall_mem_cons.2 ⟨Meets.at (pre := R) (Φ := F) m13, (fun _ h => nomatch h)⟩)) Try.func15 b15 n15 (loops_n 0 k15 fun k hk => by omega) e15 fun ds hf _ => ?_
  obtain ⟨a, b, c, d, I, ds', rfl, h5, hm, hfx⟩ := fitsS hf.flat
  obtain ⟨x, y, z, rfl, hx, hy, hz⟩ := fits3 h5
  obtain ⟨px, rfl, _⟩ := wf_i64 hx
  obtain ⟨py, rfl, _⟩ := wf_i64 hy
  obtain ⟨t, rfl, _⟩ := wf_i64 hz
  have hF : F 15 [.i a, .i b, .i c, .i d, .l I, .i px, .i py, .i t] = [.i (atI I (a, b, c, d) px py t)] := rfl
  have hall : allD [.i a, .i b, .i c, .i d, .l I, .i px, .i py, .i t] = [.l (allR I (a, b, c, d) px py t)] := rfl
  rw [hF]
  by_cases h : 0 < (allR I (a, b, c, d) px py t).length
  · have e : ((allR I (a, b, c, d) px py t).getD (Int.toNat 0) []).getD 0 default = .i (cI (el (allR I (a, b, c, d) px py t) 0) 0) := all_cell h
    rw [atI, if_pos (by omega)]
    simp (disch := omega) only [vt15, VT.ok, Nd.holds, X.outs, X.ds, X.d, Op1.ev, Op2.ev, takeD_zero, takeD_cons, List.cons_append, List.nil_append, List.getD_cons_zero, List.getD_cons_succ, D.int_i, D.bool_b, D.lst_l, implies_true, and_true, F13, R13, ↓reduceIte, dlt_t, hall, e]
  · rw [atI, if_neg (by omega)]
    simp (disch := omega) only [vt15, VT.ok, Nd.holds, X.outs, X.ds, X.d, Op1.ev, Op2.ev, takeD_zero, takeD_cons, List.cons_append, List.nil_append, List.getD_cons_zero, List.getD_cons_succ, D.int_i, D.bool_b, D.lst_l, Bool.false_eq_true, implies_true, and_true, F13, R13, ↓reduceIte, dlt_f, hall]
theorem m16 : Meets Try.prog 16 S16 (R 16) (F 16) := by
  refine meets_of_vt (pre := R) (Φ := F) mixed (sgAt_all (P := Try.prog) (pre := R) (Φ := F) (l := sg16) (List.forall_mem_cons.2 ⟨Meets.at (pre := R) (Φ := F) m14, (fun _ h => nomatch h)⟩)) Try.func16 b16 n16 (loops_n 0 k16 fun k hk => by omega) e16 fun ds hf _ => ?_
  obtain ⟨a, b, c, d, I, ds', rfl, h5, hm, hfx⟩ := fitsS hf.flat
  obtain ⟨x, y, z, rfl, hx, hy, hz⟩ := fits3 h5
  obtain ⟨px, rfl, _⟩ := wf_i64 hx
  obtain ⟨py, rfl, _⟩ := wf_i64 hy
  obtain ⟨t, rfl, _⟩ := wf_i64 hz
  have hF : F 16 [.i a, .i b, .i c, .i d, .l I, .i px, .i py, .i t] = [.i (atI I (a, b, c, d) px py t)] := rfl
  have hall : allD [.i a, .i b, .i c, .i d, .l I, .i px, .i py, .i t] = [.l (allR I (a, b, c, d) px py t)] := rfl
  rw [hF]
  by_cases h : 0 < (allR I (a, b, c, d) px py t).length
  · have e : ((allR I (a, b, c, d) px py t).getD (Int.toNat 0) []).getD 0 default = .i (cI (el (allR I (a, b, c, d) px py t) 0) 0) := all_cell h
    rw [atI, if_pos (by omega)]
    simp (disch := omega) only [vt16, VT.ok, Nd.holds, X.outs, X.ds, X.d, Op1.ev, Op2.ev, takeD_zero, takeD_cons, List.cons_append, List.nil_append, List.getD_cons_zero, List.getD_cons_succ, D.int_i, D.bool_b, D.lst_l, Bool.false_eq_true, implies_true, and_true, F14, R14, ↓reduceIte, dlt_t, beq_f, hall, e]
  · rw [atI, if_neg (by omega)]
    simp (disch := omega) only [vt16, VT.ok, Nd.holds, X.outs, X.ds, X.d, Op1.ev, Op2.ev, takeD_zero, takeD_cons, List.cons_append, List.nil_append, List.getD_cons_zero, List.getD_cons_succ, D.int_i, D.bool_b, D.lst_l, implies_true, and_true, F14, R14, ↓reduceIte, beq_t, hall]
end Go.Proofs.Ytpnfcopgmeggoaa.rv
