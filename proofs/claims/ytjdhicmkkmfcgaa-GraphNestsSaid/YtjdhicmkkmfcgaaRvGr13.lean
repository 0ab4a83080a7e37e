/-
  Graphs: equal graphs.
-/
import Derived.Test.YtjdhicmkkmfcgaaRvGr12
namespace Go.Proofs.Ytjdhicmkkmfcgaa.rv
open Go.RV

theorem fitsN {e : TypeId} {c rest : List CT} {ds : List D} (h : FitsF (.str :: .str :: .int .i64 :: .int .i64 :: .int .i64 :: .sl e c :: rest) ds) :
    ∃ (s t : ByteArray) (a b c : Int) (ps : List (List D)) (ds' : List D), ds = .s s :: .s t :: .i a :: .i b :: .i c :: .l ps :: ds' ∧ FitsF rest ds' ∧ ps.length ≤ maxLen := by
  match ds, h with
  | d0 :: d1 :: d2 :: d3 :: d4 :: d5 :: ds', ⟨h0, h1, h2, h3, h4, h5, h6⟩ =>
    obtain ⟨s, rfl, _⟩ := wf_str h0
    obtain ⟨t, rfl, _⟩ := wf_str h1
    obtain ⟨a, rfl, _⟩ := wf_i64 h2
    obtain ⟨b, rfl, _⟩ := wf_i64 h3
    obtain ⟨c, rfl, _⟩ := wf_i64 h4
    obtain ⟨ps, rfl, hp, _⟩ := wf_sl h5
    exact ⟨s, t, a, b, c, ps, ds', rfl, h6, hp⟩
theorem m38 : Meets Try.prog 38 S38 (R 38) (F 38) := by
  refine meets_of_vt (pre := R) (Φ := F) mixed (sgAt_all (P := Try.prog) (pre := R) (Φ := F) (l := sg38) (List.forall_mem_cons.2 ⟨Meets.at (pre := R) (Φ := F) m58, (fun _ h => nomatch h)⟩)) Try.func38 b38 n38 (loops_n 0 k38 fun k hk => by omega) e38 fun ds hf hq => ?_
  obtain ⟨s, t, a, b, c, ps, ds', rfl, h5, _⟩ := fitsN hf.flat
  obtain ⟨s', t', a', b', c', ps', ds'', rfl, h6, _⟩ := fitsN h5
  have e0 := fits0 h6
  subst e0
  simp only [vt38, VT.ok, Nd.holds, X.outs, X.ds, X.d, Op2.ev, takeD_zero, takeD_cons, List.cons_append, List.nil_append, List.getD_cons_zero, List.getD_cons_succ, D.int_i, D.bool_b, D.lst_l, D.str_s, ite_b, ite_and, implies_true, true_and, F58, R58, F38, eqFn, cL]
  rfl
theorem m69049 : Meets Try.prog 69049 S69049 (R 69049) (F 69049) := by
  refine meets_dyn (by decide) rfl fun d ds hf hp => ?_
  obtain ⟨bs, e, hl⟩ : dpSame 38 (d :: ds) := hp
  cases e
  exact ⟨38, [], [], S38, _, F 38, rfl, by decide, m38, rfl, rfl, trivial, by rw [List.append_nil]; rfl⟩
theorem loopM37_0 : LoopMeets Try.prog F (R L37_0.key) L37_0 lb37_0 := by
  refine loop_meets (pre := R) mixed (sgAt_all (P := Try.prog) (pre := R) (Φ := F) (l := sg37) (List.forall_mem_cons.2 ⟨Meets.at (pre := R) (Φ := F) m69049, (fun _ h => nomatch h)⟩)) (loops_n 0 lk37_0 fun k hk => by omega) L37_0 (fun ρ => ((ρ.getD 4 default).int - (ρ.getD 5 default).int).toNat) le37_0 fun ρ _ hq => ?_
  obtain ⟨ys, c, v, xs, j, rfl, hj, hm, hl, hp⟩ : eqfPr (dpSame 38) 6 ρ := hq
  rw [maxLen_val] at hm
  by_cases hlt : j < xs.length
  · simp (disch := omega) only [rt37_0, VT.ok, Nd.holds, X.outs, X.ds, X.d, Op1.ev, Op2.ev, List.cons_append, List.nil_append, List.getD_cons_zero, List.getD_cons_succ, D.int_i, D.bool_b, D.lst_l, Int.toNat_natCast, implies_true, true_and, takeD1_0, F69049, R69049, ↓reduceIte, dle_t, dlt_t, w64']
    refine ⟨fun _ => hp j hlt, ?_⟩
    show if (!((dySame (c :: (cellsN 6 (el xs j) ++ cellsN 6 (el ys j)))).getD 0 default).bool) = true then _ else _
    cases hb : ((dySame (c :: (cellsN 6 (el xs j) ++ cellsN 6 (el ys j)))).getD 0 default).bool
    · simp only [Bool.not_false, if_true]
      refine round_exit (by omega) ?_
      show eqfLp dySame 6 [.l ys, c, v, .l xs, .i (xs.length : Int), .i (j : Int)] = _
      simp only [eqfLp, Int.toNat_natCast]
      exact scan_hit hlt (by rw [hb]; rfl)
    · simp only [Bool.not_true, Bool.false_eq_true, if_false]
      refine round_next ⟨⟨ys, c, v, xs, j + 1, rfl, by omega, hm, hl, hp⟩, ?_, ?_⟩
      · show ((xs.length : Int) - ((j + 1 : Nat) : Int)).toNat < ((xs.length : Int) - (j : Int)).toNat
        omega
      · show eqfLp dySame 6 [.l ys, c, v, .l xs, .i (xs.length : Int), .i ((j + 1 : Nat) : Int)] = eqfLp dySame 6 [.l ys, c, v, .l xs, .i (xs.length : Int), .i (j : Int)]
        simp only [eqfLp, Int.toNat_natCast]
        exact scan_next hlt (by rw [hb]; rfl)
  · have hj' : j = xs.length := by omega
    subst hj'
    simp (disch := omega) only [rt37_0, VT.ok, X.ds, X.d, Op2.ev, List.getD_cons_zero, List.getD_cons_succ, D.int_i, D.bool_b, Bool.false_eq_true, ↓reduceIte, dlt_f]
    refine round_exit (by omega) ?_
    show eqfLp dySame 6 [.l ys, c, v, .l xs, .i (xs.length : Int), .i (xs.length : Int)] = _
    simp only [eqfLp, Int.toNat_natCast]
    exact scan_end
theorem fits3' {a b c : CT} {ds : List D} (h : FitsF [a, b, c] ds) : ∃ x y z, ds = [x, y, z] ∧ Wf a x ∧ Wf b y ∧ Wf c z := fits3 h
theorem m37 : Meets Try.prog 37 S37 (R 37) (F 37) := by
  refine meets_of_vt (pre := R) (Φ := F) mixed (sgAt_all (P := Try.prog) (pre := R) (Φ := F) (l := sg37) (List.forall_mem_cons.2 ⟨Meets.at (pre := R) (Φ := F) m69049, (fun _ h => nomatch h)⟩)) Try.func37 b37 n37 (loops_n 1 k37 fun k hk => match k, hk with | 0, _ => loop_this lf37_0 loopM37_0) e37 fun ds hf hq => ?_
  obtain ⟨x, y, c, rfl, hx, hy, hc⟩ := fits3 hf.flat
  obtain ⟨xs, rfl, hm, _⟩ := wf_sl hx
  obtain ⟨ys, rfl, hm', _⟩ := wf_sl hy
  by_cases hl : ys.length = xs.length
  · have hpre : eqfPr (dpSame 38) 6 [.l ys, c, .b false, .l xs, .i (xs.length : Int), .i 0] := ⟨ys, c, _, xs, 0, rfl, by omega, hm, hl, hq hl.symm⟩
    simp (disch := omega) only [vt37, VT.ok, Nd.holds, X.outs, X.ds, X.d, Op1.ev, Op2.ev, List.cons_append, List.nil_append, List.getD_cons_zero, List.getD_cons_succ, D.int_i, D.bool_b, D.lst_l, Bool.false_eq_true, F13700, R13700, F37, ↓reduceIte, beq_t, Bool.not_true, eqfFn, eqR, cL]
    refine ⟨fun _ => hpre, ?_⟩
    simp only [eqfLp, Int.toNat_zero, Nat.sub_zero]
    rcases scan_two (p := fun j => !((dySame (c :: (cellsN 6 (el xs j) ++ cellsN 6 (el ys j)))).getD 0 default).bool) xs.length with ⟨h1, j, _, _, _, h⟩ | ⟨h1, h⟩
    · simp only [h, h1]; rfl
    · simp only [h, h1]; rfl
  · simp (disch := omega) only [vt37, VT.ok, X.ds, X.d, Op1.ev, Op2.ev, List.getD_cons_zero, List.getD_cons_succ, D.int_i, D.bool_b, D.lst_l, F37, ↓reduceIte, beq_f, Bool.not_false, eqfFn, eqR, cL, Bool.false_and]
theorem m16 : Meets Try.prog 16 S16 (R 16) (F 16) := by
  refine meets_of_vt (pre := R) (Φ := F) mixed (sgAt_all (P := Try.prog) (pre := R) (Φ := F) (l := sg16) (List.forall_mem_cons.2 ⟨Meets.at (pre := R) (Φ := F) m37, List.forall_mem_cons.2 ⟨Meets.at (pre := R) (Φ := F) m39, List.forall_mem_cons.2 ⟨Meets.at (pre := R) (Φ := F) m40, (fun _ h => nomatch h)⟩⟩⟩)) Try.func16 b16 n16 (loops_n 0 k16 fun k hk => by omega) e16 fun ds hf hq => ?_
  obtain ⟨g, ds', rfl, h5, _⟩ := fitsG hf.flat
  obtain ⟨h, ds'', rfl, h6, _⟩ := fitsG h5
  have e0 := fits0 h6
  subst e0
  have hF : F 16 (.s g.nm :: .b g.dr :: .l g.N :: .l g.E :: .l g.C :: [.s h.nm, .b h.dr, .l h.N, .l h.E, .l h.C]) = [.b (sameG g h)] := rfl
  rw [hF]
  simp only [vt16, VT.ok, Nd.holds, X.outs, X.ds, X.d, Op2.ev, takeD_zero, takeD_cons, List.cons_append, List.nil_append, List.getD_cons_zero, List.getD_cons_succ, D.bool_b, D.lst_l, D.str_s, ite_b, ite_and, implies_true, true_and, F39, R39, F40, R40, F37, R37, eqfFn, eqFn, cL]
  exact ⟨fun _ _ i _ => ⟨_, rfl, by rw [List.length_append, cellsN_length, cellsN_length]⟩, rfl⟩
theorem loopM41_0 : LoopMeets Try.prog F (R L41_0.key) L41_0 lb41_0 := by
  refine loop_meets (pre := R) mixed (sgAt_all (P := Try.prog) (pre := R) (Φ := F) (l := sg41) ((fun _ h => nomatch h))) (loops_n 0 lk41_0 fun k hk => by omega) L41_0 (fun ρ => (((ρ.getD 7 default).lst.length : Int) - (ρ.getD 1 default).int).toNat) le41_0 fun ρ _ hq => ?_
  obtain ⟨v, a, b, c, d, e, xs, a', b', c', d', e', ys, j, rfl, hj, hm, hl⟩ : prSN ρ := hq
  rw [maxLen_val] at hm
  by_cases hlt : j < xs.length
  · simp (disch := omega) only [rt41_0, VT.ok, Nd.holds, X.ds, X.d, Op1.ev, Op2.ev, List.getD_cons_zero, List.getD_cons_succ, D.int_i, D.bool_b, D.lst_l, ite_b, ite_and, Int.toNat_natCast, implies_true, true_and, ↓reduceIte, dle_t, dlt_t, w64']
    show if (!sameRow2 (el xs j) (el ys j)) = true then _ else _
    cases hb : sameRow2 (el xs j) (el ys j)
    · simp only [Bool.not_false, if_true]
      refine round_exit (by omega) ?_
      show lpSN [v, .i (j : Int), a, b, c, d, e, .l xs, a', b', c', d', e', .l ys] = _
      simp only [lpSN, Int.toNat_natCast]
      exact scan_hit hlt (by rw [hb]; rfl)
    · simp only [Bool.not_true, Bool.false_eq_true, if_false]
      refine round_next ⟨⟨v, a, b, c, d, e, xs, a', b', c', d', e', ys, j + 1, rfl, by omega, hm, hl⟩, ?_, ?_⟩
      · show ((xs.length : Int) - ((j + 1 : Nat) : Int)).toNat < ((xs.length : Int) - (j : Int)).toNat
        omega
      · show lpSN [v, .i ((j + 1 : Nat) : Int), a, b, c, d, e, .l xs, a', b', c', d', e', .l ys] = lpSN [v, .i (j : Int), a, b, c, d, e, .l xs, a', b', c', d', e', .l ys]
        simp only [lpSN, Int.toNat_natCast]
        exact scan_next hlt (by rw [hb]; rfl)
  · have hj' : j = xs.length := by omega
    subst hj'
    simp (disch := omega) only [rt41_0, VT.ok, X.ds, X.d, Op1.ev, Op2.ev, List.getD_cons_zero, List.getD_cons_succ, D.int_i, D.bool_b, D.lst_l, Bool.false_eq_true, ↓reduceIte, dlt_f]
    refine round_exit (by omega) ?_
    show lpSN [v, .i (xs.length : Int), a, b, c, d, e, .l xs, a', b', c', d', e', .l ys] = _
    simp only [lpSN, Int.toNat_natCast]
    exact scan_end
theorem nor6 (a b c d e f : Bool) : (((((!a || !b) || !c) || !d) || !e) || !f) = !((((((a && b) && c) && d) && e)) && f) := by
  cases a <;> cases b <;> cases c <;> cases d <;> cases e <;> cases f <;> rfl
theorem m41 : Meets Try.prog 41 S41 (R 41) (F 41) := by
  refine meets_of_vt (pre := R) (Φ := F) mixed (sgAt_all (P := Try.prog) (pre := R) (Φ := F) (l := sg41) ((fun _ h => nomatch h))) Try.func41 b41 n41 (loops_n 1 k41 fun k hk => match k, hk with | 0, _ => loop_this lf41_0 loopM41_0) e41 fun ds hf hq => ?_
  obtain ⟨s, t, a, b, c, ps, ds', rfl, h5, hps⟩ := fitsN hf.flat
  obtain ⟨s', t', a', b', c', ps', ds'', rfl, h6, _⟩ := fitsN h5
  have e0 := fits0 h6
  subst e0
  have hF : F 41 [.s s, .s t, .i a, .i b, .i c, .l ps, .s s', .s t', .i a', .i b', .i c', .l ps'] = [.b ((((((s == s') && (t == t')) && (a == a')) && (b == b')) && (c == c')) && eqR sameRow2 ps ps')] := rfl
  rw [hF]
  generalize hv : ((((((s == s') && (t == t')) && (a == a')) && (b == b')) && (c == c')) && eqR sameRow2 ps ps') = res
  simp only [vt41, VT.ok, Nd.holds, X.outs, X.ds, X.d, Op1.ev, Op2.ev, List.cons_append, List.nil_append, List.getD_cons_zero, List.getD_cons_succ, D.int_i, D.bool_b, D.lst_l, D.str_s, ite_b, ite_or, F14100, R14100]
  rw [nor6]
  generalize (((((s == s') && (t == t')) && (a == a')) && (b == b')) && (c == c')) = k at hv ⊢
  cases k
  · simp only [Bool.false_and, Bool.not_false, if_true] at hv ⊢
    rw [← hv]
  · simp only [Bool.true_and] at hv ⊢
    by_cases hl : ps'.length = ps.length
    · have hpre : prSN [.b false, .i 0, .s s, .s t, .i a, .i b, .i c, .l ps, .s s', .s t', .i a', .i b', .i c', .l ps'] := ⟨_, _, _, _, _, _, ps, _, _, _, _, _, ps', 0, rfl, by omega, hps, hl⟩
      rw [eqR] at hv
      rw [beq_t (by omega)] at hv ⊢
      simp only [Bool.not_true, Bool.false_eq_true, if_false, Bool.true_and] at hv ⊢
      refine ⟨fun _ => hpre, ?_⟩
      simp only [lpSN, Int.toNat_zero, Nat.sub_zero]
      rcases scan_two (p := fun j => !sameRow2 (el ps j) (el ps' j)) ps.length with ⟨h1, j, _, _, _, h⟩ | ⟨h1, h⟩
      · rw [h1] at hv; simp only [h, ← hv]; rfl
      · rw [h1] at hv; simp only [h, ← hv]; rfl
    · rw [eqR, beq_f (by omega), Bool.false_and] at hv
      rw [beq_f (by omega), ← hv]; rfl
theorem loopM17_0 : LoopMeets Try.prog F (R L17_0.key) L17_0 lb17_0 := by
  refine loop_meets (pre := R) mixed (sgAt_all (P := Try.prog) (pre := R) (Φ := F) (l := sg17) (List.forall_mem_cons.2 ⟨Meets.at (pre := R) (Φ := F) m41, (fun _ h => nomatch h)⟩)) (loops_n 0 lk17_0 fun k hk => by omega) L17_0 (fun ρ => (((ρ.getD 4 default).lst.length : Int) - (ρ.getD 1 default).int).toNat) le17_0 fun ρ _ hq => ?_
  obtain ⟨v, g, h, j, rfl, hj, hm, hl⟩ : prS0 ρ := hq
  rw [maxLen_val] at hm
  by_cases hlt : j < g.N.length
  · simp (disch := omega) only [rt17_0, VT.ok, Nd.holds, X.outs, X.ds, X.d, Op1.ev, Op2.ev, takeD_zero, takeD_cons, List.cons_append, List.nil_append, List.getD_cons_zero, List.getD_cons_succ, D.int_i, D.bool_b, D.lst_l, Int.toNat_natCast, implies_true, true_and, F41, R41, ↓reduceIte, dle_t, dlt_t, w64', sameNodeD]
    show if (!sameNodeB (el g.N j) (el h.N j)) = true then _ else _
    cases hb : sameNodeB (el g.N j) (el h.N j)
    · simp only [Bool.not_false, if_true]
      refine round_exit (by omega) ?_
      show lpS0 [v, .i (j : Int), .s g.nm, .b g.dr, .l g.N, .l g.E, .l g.C, .s h.nm, .b h.dr, .l h.N, .l h.E, .l h.C] = _
      simp only [lpS0, lpSG, Int.toNat_natCast]
      exact scan_hit hlt (by rw [hb]; rfl)
    · simp only [Bool.not_true, Bool.false_eq_true, if_false]
      refine round_next ⟨⟨v, g, h, j + 1, rfl, by omega, hm, hl⟩, ?_, ?_⟩
      · show ((g.N.length : Int) - ((j + 1 : Nat) : Int)).toNat < ((g.N.length : Int) - (j : Int)).toNat
        omega
      · show lpS0 [v, .i ((j + 1 : Nat) : Int), .s g.nm, .b g.dr, .l g.N, .l g.E, .l g.C, .s h.nm, .b h.dr, .l h.N, .l h.E, .l h.C] = lpS0 [v, .i (j : Int), .s g.nm, .b g.dr, .l g.N, .l g.E, .l g.C, .s h.nm, .b h.dr, .l h.N, .l h.E, .l h.C]
        simp only [lpS0, lpSG, Int.toNat_natCast]
        exact scan_next hlt (by rw [hb]; rfl)
  · have hj' : j = g.N.length := by omega
    subst hj'
    simp (disch := omega) only [rt17_0, VT.ok, X.ds, X.d, Op1.ev, Op2.ev, List.getD_cons_zero, List.getD_cons_succ, D.int_i, D.bool_b, D.lst_l, Bool.false_eq_true, ↓reduceIte, dlt_f]
    refine round_exit (by omega) ?_
    show lpS0 [v, .i (g.N.length : Int), .s g.nm, .b g.dr, .l g.N, .l g.E, .l g.C, .s h.nm, .b h.dr, .l h.N, .l h.E, .l h.C] = _
    simp only [lpS0, lpSG, Int.toNat_natCast]
    exact scan_end
theorem loopM17_1 : LoopMeets Try.prog F (R L17_1.key) L17_1 lb17_1 := by
  refine loop_meets (pre := R) mixed (sgAt_all (P := Try.prog) (pre := R) (Φ := F) (l := sg17) (List.forall_mem_cons.2 ⟨Meets.at (pre := R) (Φ := F) m41, (fun _ h => nomatch h)⟩)) (loops_n 0 lk17_1 fun k hk => by omega) L17_1 (fun ρ => (((ρ.getD 5 default).lst.length : Int) - (ρ.getD 1 default).int).toNat) le17_1 fun ρ _ hq => ?_
  obtain ⟨v, g, h, j, rfl, hj, hm, hl⟩ : prS1 ρ := hq
  rw [maxLen_val] at hm
  by_cases hlt : j < g.E.length
  · simp (disch := omega) only [rt17_1, VT.ok, Nd.holds, X.ds, X.d, Op1.ev, Op2.ev, List.getD_cons_zero, List.getD_cons_succ, D.int_i, D.bool_b, D.lst_l, ite_b, ite_and, Int.toNat_natCast, implies_true, true_and, ↓reduceIte, dle_t, dlt_t, w64']
    show if (!sameEdgeB (el g.E j) (el h.E j)) = true then _ else _
    cases hb : sameEdgeB (el g.E j) (el h.E j)
    · simp only [Bool.not_false, if_true]
      refine round_exit (by omega) ?_
      show lpS1 [v, .i (j : Int), .s g.nm, .b g.dr, .l g.N, .l g.E, .l g.C, .s h.nm, .b h.dr, .l h.N, .l h.E, .l h.C] = _
      simp only [lpS1, lpSG, Int.toNat_natCast]
      exact scan_hit hlt (by rw [hb]; rfl)
    · simp only [Bool.not_true, Bool.false_eq_true, if_false]
      refine round_next ⟨⟨v, g, h, j + 1, rfl, by omega, hm, hl⟩, ?_, ?_⟩
      · show ((g.E.length : Int) - ((j + 1 : Nat) : Int)).toNat < ((g.E.length : Int) - (j : Int)).toNat
        omega
      · show lpS1 [v, .i ((j + 1 : Nat) : Int), .s g.nm, .b g.dr, .l g.N, .l g.E, .l g.C, .s h.nm, .b h.dr, .l h.N, .l h.E, .l h.C] = lpS1 [v, .i (j : Int), .s g.nm, .b g.dr, .l g.N, .l g.E, .l g.C, .s h.nm, .b h.dr, .l h.N, .l h.E, .l h.C]
        simp only [lpS1, lpSG, Int.toNat_natCast]
        exact scan_next hlt (by rw [hb]; rfl)
  · have hj' : j = g.E.length := by omega
    subst hj'
    simp (disch := omega) only [rt17_1, VT.ok, X.ds, X.d, Op1.ev, Op2.ev, List.getD_cons_zero, List.getD_cons_succ, D.int_i, D.bool_b, D.lst_l, Bool.false_eq_true, ↓reduceIte, dlt_f]
    refine round_exit (by omega) ?_
    show lpS1 [v, .i (g.E.length : Int), .s g.nm, .b g.dr, .l g.N, .l g.E, .l g.C, .s h.nm, .b h.dr, .l h.N, .l h.E, .l h.C] = _
    simp only [lpS1, lpSG, Int.toNat_natCast]
    exact scan_end
theorem loopM17_2 : LoopMeets Try.prog F (R L17_2.key) L17_2 lb17_2 := by
  refine loop_meets (pre := R) mixed (sgAt_all (P := Try.prog) (pre := R) (Φ := F) (l := sg17) (List.forall_mem_cons.2 ⟨Meets.at (pre := R) (Φ := F) m41, (fun _ h => nomatch h)⟩)) (loops_n 0 lk17_2 fun k hk => by omega) L17_2 (fun ρ => (((ρ.getD 6 default).lst.length : Int) - (ρ.getD 1 default).int).toNat) le17_2 fun ρ _ hq => ?_
  obtain ⟨v, g, h, j, rfl, hj, hm, hl⟩ : prS2 ρ := hq
  rw [maxLen_val] at hm
  by_cases hlt : j < g.C.length
  · simp (disch := omega) only [rt17_2, VT.ok, Nd.holds, X.ds, X.d, Op1.ev, Op2.ev, List.getD_cons_zero, List.getD_cons_succ, D.int_i, D.bool_b, D.lst_l, ite_b, ite_and, Int.toNat_natCast, implies_true, true_and, ↓reduceIte, dle_t, dlt_t, w64']
    show if (!sameRow2 (el g.C j) (el h.C j)) = true then _ else _
    cases hb : sameRow2 (el g.C j) (el h.C j)
    · simp only [Bool.not_false, if_true]
      refine round_exit (by omega) ?_
      show lpS2 [v, .i (j : Int), .s g.nm, .b g.dr, .l g.N, .l g.E, .l g.C, .s h.nm, .b h.dr, .l h.N, .l h.E, .l h.C] = _
      simp only [lpS2, lpSG, Int.toNat_natCast]
      exact scan_hit hlt (by rw [hb]; rfl)
    · simp only [Bool.not_true, Bool.false_eq_true, if_false]
      refine round_next ⟨⟨v, g, h, j + 1, rfl, by omega, hm, hl⟩, ?_, ?_⟩
      · show ((g.C.length : Int) - ((j + 1 : Nat) : Int)).toNat < ((g.C.length : Int) - (j : Int)).toNat
        omega
      · show lpS2 [v, .i ((j + 1 : Nat) : Int), .s g.nm, .b g.dr, .l g.N, .l g.E, .l g.C, .s h.nm, .b h.dr, .l h.N, .l h.E, .l h.C] = lpS2 [v, .i (j : Int), .s g.nm, .b g.dr, .l g.N, .l g.E, .l g.C, .s h.nm, .b h.dr, .l h.N, .l h.E, .l h.C]
        simp only [lpS2, lpSG, Int.toNat_natCast]
        exact scan_next hlt (by rw [hb]; rfl)
  · have hj' : j = g.C.length := by omega
    subst hj'
    simp (disch := omega) only [rt17_2, VT.ok, X.ds, X.d, Op1.ev, Op2.ev, List.getD_cons_zero, List.getD_cons_succ, D.int_i, D.bool_b, D.lst_l, Bool.false_eq_true, ↓reduceIte, dlt_f]
    refine round_exit (by omega) ?_
    show lpS2 [v, .i (g.C.length : Int), .s g.nm, .b g.dr, .l g.N, .l g.E, .l g.C, .s h.nm, .b h.dr, .l h.N, .l h.E, .l h.C] = _
    simp only [lpS2, lpSG, Int.toNat_natCast]
    exact scan_end
theorem lpSG_two (p : List D → List D → Bool) (xs ys : List (List D)) (v : D) (h : ys.length = xs.length) : (eqR p xs ys = false ∧ ∃ n, lpSG p xs ys v 0 = [.i 0, .b false, .i n]) ∨ (eqR p xs ys = true ∧ ∃ n, lpSG p xs ys v 0 = [.i 1, v, .i n]) := by
  unfold lpSG
  rcases scan_two (p := fun j => !p (el xs j) (el ys j)) xs.length with ⟨h1, j, _, _, _, h2⟩ | ⟨h1, h2⟩
  · exact .inl ⟨by rw [eqR, h1]; simp, _, by rw [Nat.sub_zero, h2]⟩
  · exact .inr ⟨by rw [eqR, h1, beq_t (by omega)]; rfl, _, by rw [Nat.sub_zero, h2]⟩
theorem eqR_len {p : List D → List D → Bool} {xs ys : List (List D)} (h : ys.length ≠ xs.length) : eqR p xs ys = false := by rw [eqR, beq_f (by omega), Bool.false_and]
theorem m17 : Meets Try.prog 17 S17 (R 17) (F 17) := by
  refine meets_of_vt (pre := R) (Φ := F) mixed (sgAt_all (P := Try.prog) (pre := R) (Φ := F) (l := sg17) (List.forall_mem_cons.2 ⟨Meets.at (pre := R) (Φ := F) m41, (fun _ h => nomatch h)⟩)) Try.func17 b17 n17 (loops_n 3 k17 fun k hk => match k, hk with | 0, _ => loop_this lf17_0 loopM17_0 | 1, _ => loop_this lf17_1 loopM17_1 | 2, _ => loop_this lf17_2 loopM17_2) e17 fun ds hf hq => ?_
  obtain ⟨g, ds', rfl, h5, _, ⟨hmN, _⟩, ⟨hmE, _⟩, ⟨hmC, _⟩⟩ := fitsG hf.flat
  obtain ⟨h, ds'', rfl, h6, _⟩ := fitsG h5
  have e0 := fits0 h6
  subst e0
  have hF : F 17 (.s g.nm :: .b g.dr :: .l g.N :: .l g.E :: .l g.C :: [.s h.nm, .b h.dr, .l h.N, .l h.E, .l h.C]) = [.b (sameG g h)] := rfl
  rw [hF]
  generalize hv : sameG g h = res
  unfold sameG at hv
  simp only [vt17, VT.ok, Nd.holds, X.outs, X.ds, X.d, Op1.ev, Op2.ev, List.cons_append, List.nil_append, List.getD_cons_zero, List.getD_cons_succ, D.int_i, D.bool_b, D.lst_l, D.str_s, ite_b, ite_or, F11700, R11700, F11701, R11701, F11702, R11702]
  cases h1 : (g.nm == h.nm)
  · rw [h1] at hv
    simp only [Bool.false_and, Bool.not_false, Bool.true_or, if_true] at hv ⊢
    rw [← hv]
  cases h2 : (g.dr == h.dr)
  · rw [h1, h2] at hv
    simp only [Bool.false_and, Bool.and_false, Bool.not_false, Bool.true_or, Bool.or_true, if_true] at hv ⊢
    rw [← hv]
  rw [h1, h2] at hv
  by_cases lN : h.N.length = g.N.length
  · by_cases lE : h.E.length = g.E.length
    · by_cases lC : h.C.length = g.C.length
      · have p0 : prS0 [.b false, .i 0, .s g.nm, .b g.dr, .l g.N, .l g.E, .l g.C, .s h.nm, .b h.dr, .l h.N, .l h.E, .l h.C] := ⟨_, g, h, 0, rfl, by omega, hmN, lN⟩
        have p1 : ∀ v, prS1 [v, .i 0, .s g.nm, .b g.dr, .l g.N, .l g.E, .l g.C, .s h.nm, .b h.dr, .l h.N, .l h.E, .l h.C] := fun v => ⟨_, g, h, 0, rfl, by omega, hmE, lE⟩
        have p2 : ∀ v, prS2 [v, .i 0, .s g.nm, .b g.dr, .l g.N, .l g.E, .l g.C, .s h.nm, .b h.dr, .l h.N, .l h.E, .l h.C] := fun v => ⟨_, g, h, 0, rfl, by omega, hmC, lC⟩
        rw [beq_t (a := (g.N.length : Int)) (by omega), beq_t (a := (g.E.length : Int)) (by omega), beq_t (a := (g.C.length : Int)) (by omega), if_neg (by decide)]
        refine ⟨fun _ => p0, ?_⟩
        simp only [lpS0, lpS1, lpS2, Int.toNat_zero]
        rcases lpSG_two sameNodeB g.N h.N (.b false) lN with ⟨e1, n1, e2⟩ | ⟨e1, n1, e2⟩
        · rw [e1] at hv
          simp only [e2, takeD_zero, takeD_cons, List.cons_append, List.nil_append, List.getD_cons_zero, List.getD_cons_succ, D.int_i]
          rw [if_pos (by rfl), ← hv]; rfl
        · rw [e1] at hv
          simp only [e2, takeD_zero, takeD_cons, List.cons_append, List.nil_append, List.getD_cons_zero, List.getD_cons_succ, D.int_i]
          rw [if_neg (by decide)]
          refine ⟨fun _ => p1 _, ?_⟩
          rcases lpSG_two sameEdgeB g.E h.E (.b false) lE with ⟨e3, n3, e4⟩ | ⟨e3, n3, e4⟩
          · rw [e3] at hv
            simp only [e4, takeD_zero, takeD_cons, List.cons_append, List.nil_append, List.getD_cons_zero, List.getD_cons_succ, D.int_i]
            rw [if_pos (by rfl), ← hv]; rfl
          · rw [e3] at hv
            simp only [e4, takeD_zero, takeD_cons, List.cons_append, List.nil_append, List.getD_cons_zero, List.getD_cons_succ, D.int_i]
            rw [if_neg (by decide)]
            refine ⟨fun _ => p2 _, ?_⟩
            rcases lpSG_two sameRow2 g.C h.C (.b false) lC with ⟨e5, n5, e6⟩ | ⟨e5, n5, e6⟩
            · rw [e5] at hv
              simp only [e6, takeD_zero, takeD_cons, List.getD_cons_zero, List.getD_cons_succ, D.int_i]
              rw [if_pos (by rfl), ← hv]; rfl
            · rw [e5] at hv
              simp only [e6, takeD_zero, takeD_cons, List.getD_cons_zero, List.getD_cons_succ, D.int_i]
              rw [if_neg (by decide), ← hv]; rfl
      · rw [eqR_len lC, Bool.and_false] at hv
        rw [beq_f (a := (g.C.length : Int)) (by omega), ← hv]
        simp only [Bool.not_false, Bool.or_true, if_true]
    · rw [eqR_len lE, Bool.and_false, Bool.false_and] at hv
      rw [beq_f (a := (g.E.length : Int)) (by omega), ← hv]
      simp only [Bool.not_false, Bool.or_true, Bool.true_or, if_true]
  · rw [eqR_len lN, Bool.and_false, Bool.false_and, Bool.false_and] at hv
    rw [beq_f (a := (g.N.length : Int)) (by omega), ← hv]
    simp only [Bool.not_false, Bool.or_true, Bool.true_or, if_true]
end Go.Proofs.Ytjdhicmkkmfcgaa.rv
