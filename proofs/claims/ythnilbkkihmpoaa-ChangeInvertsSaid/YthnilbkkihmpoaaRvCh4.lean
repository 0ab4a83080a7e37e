/-
  Changes of graphs: one edit.
-/
import Derived.Test.YthnilbkkihmpoaaRvCh3
namespace Go.Proofs.Ythnilbkkihmpoaa.rv
open Go.RV

theorem validL (nm : ByteArray) (dr : Bool) (N E C : List (List D)) : validD [.s nm, .b dr, .l N, .l E, .l C] = [.i (validE ⟨nm, dr, N, E, C⟩)] := rfl
def res (r : Gd × Int) : List D := r.1.ds ++ [.i r.2]
theorem fin_ok (nm : ByteArray) (dr : Bool) (N E C : List (List D)) {r : Gd × Int} (hr : r = if validE ⟨nm, dr, N, E, C⟩ = 0 then (⟨nm, dr, N, E, C⟩, 0) else (g0, validE ⟨nm, dr, N, E, C⟩)) : if (!(validE ⟨nm, dr, N, E, C⟩ == 0)) = true then [D.s ⟨#[]⟩, .b false, .l [], .l [], .l [], .i (validE ⟨nm, dr, N, E, C⟩)] = res r else [.s nm, .b dr, .l N, .l E, .l C, .i 0] = res r := by
  subst hr
  by_cases h : validE ⟨nm, dr, N, E, C⟩ = 0
  · rw [h]; rfl
  · rw [if_pos (by simpa using h), if_neg h]; rfl
theorem apply_in {g : Gd} {x : List D} (hv : validE g = 0) (hf : fitsB x = true) (hi : insB g x = true) : applyG g x = if validE (doneG g x) = 0 then (doneG g x, 0) else (g0, validE (doneG g x)) := by
  unfold applyG
  rw [if_pos ⟨hv, hf⟩, if_pos hi]
theorem apply_out {g : Gd} {x : List D} (hv : validE g = 0) (hf : fitsB x = true) (hi : ¬ insB g x = true) : applyG g x = (g0, 3) := by
  unfold applyG
  rw [if_pos ⟨hv, hf⟩, if_neg hi]
theorem apply_bad {g : Gd} {x : List D} (h : ¬ (validE g = 0 ∧ fitsB x = true)) : applyG g x = (g0, 1) := by
  unfold applyG
  rw [if_neg h]
theorem fits_kind {x : List D} (h : fitsB x = true) : cI x 0 = 1 ∨ cI x 0 = 2 ∨ cI x 0 = 3 ∨ cI x 0 = 4 ∨ cI x 0 = 5 ∨ cI x 0 = 6 := by
  unfold fitsB at h
  repeat' split at h
  all_goals simp_all
theorem port_le {e : Nat → Int} {n k : Nat} (h : fe e n = 0) (hk : k < n) : e k = 0 := fe_ok.1 h k hk
theorem clone_pre {g : Gd} (hv : validE g = 0) : prCloneG g.ds := by
  obtain ⟨⟨h1, h2, h3⟩, _, h4, _⟩ := valid_parts hv
  refine ⟨g, rfl, by omega, by omega, by omega, fun x hx => ?_⟩
  obtain ⟨k, hk, rfl⟩ := List.getElem_of_mem hx
  have := h4 k hk
  have e : el g.N k = g.N[k] := by simp [el, List.getD, hk]
  rw [← e]
  unfold nodeE at this
  repeat' split at this
  all_goals try omega
  unfold ports8 at this
  split at this
  · omega
  · omega
theorem spl2 (x : List D) (h : nodeRow x) (w v : D) : splice (splice x 2 [w]) 3 [v] = [gc x 0, gc x 1, w, v, gc x 4, gc x 5] := by
  obtain ⟨s, t, a, b, c, ps, rfl⟩ := h
  rfl
theorem spl1 (x : List D) (h : nodeRow x) (w : D) : splice x 1 [w] = [gc x 0, w, gc x 2, gc x 3, gc x 4, gc x 5] := by
  obtain ⟨s, t, a, b, c, ps, rfl⟩ := h
  rfl
theorem set_el (N : List (List D)) (i : Nat) (x : List D) (h : i < N.length) : el (N.set i x) i = x := by
  simp [el, List.getD, h]

theorem m10 : Meets Try.prog 10 S10 (R 10) (F 10) := by
  refine meets_of_vt (pre := R) (Φ := F) mixed (sgAt_all (P := Try.prog) (pre := R) (Φ := F) (l := sg10) (List.forall_mem_cons.2 ⟨Meets.at (pre := R) (Φ := F) m21, List.forall_mem_cons.2 ⟨Meets.at (pre := R) (Φ := F) m22, List.forall_mem_cons.2 ⟨Meets.at (pre := R) (Φ := F) m23, List.forall_mem_cons.2 ⟨Meets.at (pre := R) (Φ := F) m24, List.forall_mem_cons.2 ⟨MeetsRow.at (pre := R) (Φ := F) m25, List.forall_mem_cons.2 ⟨Meets.at (pre := R) (Φ := F) m26, List.forall_mem_cons.2 ⟨MeetsRow.at (pre := R) (Φ := F) m27, (fun _ h => nomatch h)⟩⟩⟩⟩⟩⟩⟩)) Try.func10 b10 n10 (loops_n 0 k10 fun k hk => by omega) e10 fun ds hf hq => ?_
  obtain ⟨g, ds', rfl, h5, _, ⟨_, hN⟩, _⟩ := fitsG hf.flat
  obtain ⟨Y, ds'', rfl, hY, hat, h6⟩ := fitsX h5
  have e0 := fits0 h6
  subst e0
  rw [List.append_nil] at *
  have hF : F 10 (.s g.nm :: .b g.dr :: .l g.N :: .l g.E :: .l g.C :: Y) = res (applyG g Y) := rfl
  rw [hF]
  have hfx := fits_eq hY
  have hps : (cL Y 7).length ≤ 1000000 := hq
  obtain ⟨k, a, s, t, w, h, c, ps, p, q, r, u, lb, wt, ln, hx⟩ := hY
  generalize hr : applyG g Y = rr
  have hk : cI Y 0 = k := by rw [hx]; rfl
  have ha : cI Y 1 = a := by rw [hx]; rfl
  rw [ha] at hat
  have hps' : ps.length ≤ 1000000 := by rw [hx] at hps; exact hps
  by_cases hv : ¬ validE g = 0
  · rw [apply_bad fun hh => hv hh.1] at hr
    subst hr
    rw [hx] at hfx ⊢
    simp only [vt10, VT.ok, Nd.holds, X.outs, X.ds, X.d, Op1.ev, Op2.ev, takeD_zero, takeD_cons, List.cons_append, List.nil_append, List.getD_cons_zero, List.getD_cons_succ, D.int_i, D.bool_b, D.lst_l, ite_b, ite_or, if_true, Bool.false_eq_true, implies_true, true_and, F21, R21, F25, R25, F27, R27, F22, R22, F24, R24, F23, R23, F26, R26, validL, hfx, beq_f hv, Bool.not_false, if_true]
    exact rfl
  have hv := Classical.not_not.1 hv
  by_cases hfit : ¬ fitsB Y = true
  · rw [apply_bad fun hh => hfit hh.2] at hr
    subst hr
    rw [Bool.not_eq_true] at hfit
    rw [hfit] at hfx
    rw [hx] at hfx ⊢
    simp only [vt10, VT.ok, Nd.holds, X.outs, X.ds, X.d, Op1.ev, Op2.ev, takeD_zero, takeD_cons, List.cons_append, List.nil_append, List.getD_cons_zero, List.getD_cons_succ, D.int_i, D.bool_b, D.lst_l, ite_b, ite_or, if_true, Bool.false_eq_true, if_false, implies_true, true_and, F21, R21, F25, R25, F27, R27, F22, R22, F24, R24, F23, R23, F26, R26, validL, hfx, hv, beq_self_eq_true, Bool.not_true, Bool.not_false, if_true]
    exact rfl
  have hfit := Classical.not_not.1 hfit
  have hin : insB g Y = true → rr = if validE (doneG g Y) = 0 then (doneG g Y, 0) else (g0, validE (doneG g Y)) := fun hi => by rw [← hr]; exact apply_in hv hfit hi
  have hout : ¬ insB g Y = true → rr = (g0, 3) := fun hi => by rw [← hr]; exact apply_out hv hfit hi
  have hkk := fits_kind hfit
  rw [hk] at hkk
  rw [hfit] at hfx
  have hcp := clone_pre hv
  obtain ⟨⟨hn1, hn2, hn3⟩, _⟩ := valid_parts hv
  have hins : insB g Y = if (k == 1) = true then true else if (k == 3) = true then true else if (k == 4) = true then decide (0 ≤ a) && decide (a < (g.E.length : Int)) else decide (0 ≤ a) && decide (a < (g.N.length : Int)) := by unfold insB; rw [hk, ha]
  have hz : k = 1 ∨ k = 3 → a = 0 := fun hh => by
    unfold fitsB at hfit
    rw [hk, ha] at hfit
    rcases hh with hh | hh
    · subst hh; simp only [beq_self_eq_true, if_true, Bool.and_eq_true, beq_iff_eq] at hfit; exact hfit.1
    · subst hh; simp only [show ((3 : Int) == 1) = false from rfl, beq_self_eq_true, if_true, Bool.false_eq_true, if_false, Bool.and_eq_true, beq_iff_eq] at hfit; exact hfit.1
  have hF21 : ∀ nm dr N E C, F 21 [.s nm, .b dr, .l N, .l E, .l C] = [.i (validE ⟨nm, dr, N, E, C⟩)] := fun nm dr N E C => validL nm dr N E C
  rcases hkk with rfl | rfl | rfl | rfl | rfl | rfl
  · -- a node more
    have h0 := hz (.inl rfl)
    subst h0
    have hd : doneG g Y = ⟨g.nm, g.dr, g.N ++ [[.s s, .s t, .i w, .i h, .i c, .l ps]], g.E, g.C⟩ := by unfold doneG; rw [hk, hx]; rfl
    have hi := hin (by rw [hins]; rfl)
    rw [hd] at hi
    have hl : ∀ z : List D, decide (((g.N ++ [z]).length : Int) ≤ 1759218604441) = true := fun z => decide_eq_true (by simp; omega)
    rw [hx] at hfx ⊢
    simp only [vt10, VT.ok, Nd.holds, X.outs, X.ds, X.d, Op1.ev, Op2.ev, takeD_zero, takeD_cons, List.cons_append, List.nil_append, List.getD_cons_zero, List.getD_cons_succ, D.int_i, D.bool_b, D.lst_l, ite_b, ite_or, if_true, Bool.false_eq_true, if_false, implies_true, true_and, takeD1_0, F21, R21, F25, R25, F27, R27, F22, R22, F24, R24, F23, R23, F26, R26, validL, cloneD, hfx, hv, beq_self_eq_true, Bool.not_true, Bool.false_eq_true, if_false, hl]
    simp only [show ((1 : Int) == 4) = false from rfl, show decide ((0 : Int) < 0) = false from rfl, show decide ((1 : Int) ≤ 0) = false from rfl, Bool.or_self, Bool.false_eq_true, if_false]
    exact ⟨fun _ => hcp, fun _ => ⟨_, _, _, _, _, ps, rfl, hps'⟩, fin_ok _ _ _ _ _ hi⟩
  · -- a node less
    by_cases hi : insB g Y = true
    · have hi2 := hi
      rw [hins] at hi2
      simp only [show ((2 : Int) == 1) = false from rfl, show ((2 : Int) == 3) = false from rfl, show ((2 : Int) == 4) = false from rfl, Bool.false_eq_true, if_false, Bool.and_eq_true, decide_eq_true_eq] at hi2
      obtain ⟨n, rfl⟩ := Int.eq_ofNat_of_zero_le hi2.1
      have hd : doneG g Y = ⟨g.nm, g.dr, rmI g.N n, wiE g.E n, g.C⟩ := by unfold doneG; rw [hk, hx]; rfl
      have hi := hin hi
      rw [hd] at hi
      have hdel : delD [.l g.N, .i (n : Int), .i (IntKind.i64.wrap ((n : Int) + 1))] = [.l (rmI g.N n)] := by rw [w64 (by omega)]; rfl
      have hpre : delPre [.l g.N, .i (n : Int), .i (IntKind.i64.wrap ((n : Int) + 1))] := by rw [w64 (by omega)]; exact ⟨g.N, n, n + 1, rfl, by omega, by omega⟩
      have hw : wiD [.l g.E, .i (n : Int)] = [.l (wiE g.E n)] := rfl
      have hwp : prWi [.l g.E, .i (n : Int)] := by show g.E.length ≤ 1000000; omega
      have c1 : decide ((n : Int) < 0) = false := decide_eq_false (by omega)
      have c2 : decide ((g.N.length : Int) ≤ (n : Int)) = false := decide_eq_false (by omega)
      rw [hx] at hfx ⊢
      simp only [vt10, VT.ok, Nd.holds, X.outs, X.ds, X.d, Op1.ev, Op2.ev, takeD_zero, takeD_cons, List.cons_append, List.nil_append, List.getD_cons_zero, List.getD_cons_succ, D.int_i, D.bool_b, D.lst_l, ite_b, ite_or, Int.toNat_natCast, if_true, Bool.false_eq_true, if_false, implies_true, true_and, takeD1_0, F21, R21, F25, R25, F27, R27, F22, R22, F24, R24, F23, R23, F26, R26, validL, cloneD, hfx, hv, beq_self_eq_true, Bool.not_true, Bool.false_eq_true, if_false, hdel, hw]
      simp only [show ((2 : Int) == 1) = false from rfl, show ((2 : Int) == 3) = false from rfl, show ((2 : Int) == 4) = false from rfl, c1, c2, Bool.or_self, Bool.false_eq_true, if_false]
      exact ⟨fun _ => hcp, fun _ => hpre, fun _ => hwp, fin_ok _ _ _ _ _ hi⟩
    · have ho := hout hi
      subst ho
      rw [hins] at hi
      simp only [show ((2 : Int) == 1) = false from rfl, show ((2 : Int) == 3) = false from rfl, show ((2 : Int) == 4) = false from rfl, Bool.false_eq_true, if_false, Bool.and_eq_true, decide_eq_true_eq] at hi
      have c1 : (decide (a < 0) || decide ((g.N.length : Int) ≤ a)) = true := by simp; omega
      rw [hx] at hfx ⊢
      simp only [vt10, VT.ok, Nd.holds, X.outs, X.ds, X.d, Op1.ev, Op2.ev, takeD_zero, takeD_cons, List.cons_append, List.nil_append, List.getD_cons_zero, List.getD_cons_succ, D.int_i, D.bool_b, D.lst_l, ite_b, ite_or, if_true, Bool.false_eq_true, if_false, implies_true, true_and, takeD1_0, F21, R21, F25, R25, F27, R27, F22, R22, F24, R24, F23, R23, F26, R26, validL, cloneD, hfx, hv, beq_self_eq_true, Bool.not_true, Bool.false_eq_true, if_false]
      simp only [show ((2 : Int) == 1) = false from rfl, show ((2 : Int) == 3) = false from rfl, show ((2 : Int) == 4) = false from rfl, c1, Bool.false_eq_true, if_false, if_true]
      exact rfl
  · -- an edge more
    have h0 := hz (.inr rfl)
    subst h0
    have hd : doneG g Y = ⟨g.nm, g.dr, g.N, g.E ++ [[.i p, .i q, .i r, .i u, .s lb, .i wt, .i ln]], g.C⟩ := by unfold doneG; rw [hk, hx]; rfl
    have hi := hin (by rw [hins]; rfl)
    rw [hd] at hi
    have hl : ∀ z : List D, decide (((g.E ++ [z]).length : Int) ≤ 2199023255552) = true := fun z => decide_eq_true (by simp; omega)
    rw [hx] at hfx ⊢
    simp only [vt10, VT.ok, Nd.holds, X.outs, X.ds, X.d, Op1.ev, Op2.ev, takeD_zero, takeD_cons, List.cons_append, List.nil_append, List.getD_cons_zero, List.getD_cons_succ, D.int_i, D.bool_b, D.lst_l, ite_b, ite_or, if_true, Bool.false_eq_true, if_false, implies_true, true_and, takeD1_0, F21, R21, F25, R25, F27, R27, F22, R22, F24, R24, F23, R23, F26, R26, validL, cloneD, hfx, hv, beq_self_eq_true, Bool.not_true, Bool.false_eq_true, if_false, hl]
    simp only [show ((3 : Int) == 4) = false from rfl, show ((3 : Int) == 1) = false from rfl, show decide ((0 : Int) < 0) = false from rfl, show decide ((1 : Int) ≤ 0) = false from rfl, Bool.or_self, Bool.false_eq_true, if_false]
    exact ⟨fun _ => hcp, fin_ok _ _ _ _ _ hi⟩
  · -- an edge less
    by_cases hi : insB g Y = true
    · have hi2 := hi
      rw [hins] at hi2
      simp only [show ((4 : Int) == 1) = false from rfl, show ((4 : Int) == 3) = false from rfl, beq_self_eq_true, if_true, Bool.false_eq_true, if_false, Bool.and_eq_true, decide_eq_true_eq] at hi2
      obtain ⟨n, rfl⟩ := Int.eq_ofNat_of_zero_le hi2.1
      have hd : doneG g Y = ⟨g.nm, g.dr, g.N, rmI g.E n, g.C⟩ := by unfold doneG; rw [hk, hx]; rfl
      have hi := hin hi
      rw [hd] at hi
      have hdel : delD [.l g.E, .i (n : Int), .i (IntKind.i64.wrap ((n : Int) + 1))] = [.l (rmI g.E n)] := by rw [w64 (by omega)]; rfl
      have hpre : delPre [.l g.E, .i (n : Int), .i (IntKind.i64.wrap ((n : Int) + 1))] := by rw [w64 (by omega)]; exact ⟨g.E, n, n + 1, rfl, by omega, by omega⟩
      have c1 : decide ((n : Int) < 0) = false := decide_eq_false (by omega)
      have c2 : decide ((g.E.length : Int) ≤ (n : Int)) = false := decide_eq_false (by omega)
      rw [hx] at hfx ⊢
      simp only [vt10, VT.ok, Nd.holds, X.outs, X.ds, X.d, Op1.ev, Op2.ev, takeD_zero, takeD_cons, List.cons_append, List.nil_append, List.getD_cons_zero, List.getD_cons_succ, D.int_i, D.bool_b, D.lst_l, ite_b, ite_or, Int.toNat_natCast, if_true, Bool.false_eq_true, if_false, implies_true, true_and, F21, R21, F25, R25, F27, R27, F22, R22, F24, R24, F23, R23, F26, R26, validL, cloneD, hfx, hv, beq_self_eq_true, Bool.not_true, Bool.false_eq_true, if_false, hdel]
      simp only [c1, c2, Bool.or_self, Bool.false_eq_true, if_false]
      exact ⟨fun _ => hcp, fun _ => hpre, fin_ok _ _ _ _ _ hi⟩
    · have ho := hout hi
      subst ho
      rw [hins] at hi
      simp only [show ((4 : Int) == 1) = false from rfl, show ((4 : Int) == 3) = false from rfl, beq_self_eq_true, if_true, Bool.false_eq_true, if_false, Bool.and_eq_true, decide_eq_true_eq] at hi
      have c1 : (decide (a < 0) || decide ((g.E.length : Int) ≤ a)) = true := by simp; omega
      rw [hx] at hfx ⊢
      simp only [vt10, VT.ok, Nd.holds, X.outs, X.ds, X.d, Op1.ev, Op2.ev, takeD_zero, takeD_cons, List.cons_append, List.nil_append, List.getD_cons_zero, List.getD_cons_succ, D.int_i, D.bool_b, D.lst_l, ite_b, ite_or, if_true, Bool.false_eq_true, if_false, implies_true, true_and, takeD1_0, F21, R21, F25, R25, F27, R27, F22, R22, F24, R24, F23, R23, F26, R26, validL, cloneD, hfx, hv, beq_self_eq_true, Bool.not_true, Bool.false_eq_true, if_false]
      simp only [c1, if_true]
      exact rfl
  · -- another size
    by_cases hi : insB g Y = true
    · have hi2 := hi
      rw [hins] at hi2
      simp only [show ((5 : Int) == 1) = false from rfl, show ((5 : Int) == 3) = false from rfl, show ((5 : Int) == 4) = false from rfl, Bool.false_eq_true, if_false, Bool.and_eq_true, decide_eq_true_eq] at hi2
      obtain ⟨n, rfl⟩ := Int.eq_ofNat_of_zero_le hi2.1
      have hlt : n < g.N.length := by omega
      have hrow := fits_node (hN _ (el_mem hlt))
      have hd : doneG g Y = ⟨g.nm, g.dr, g.N.set n [gc (el g.N n) 0, gc (el g.N n) 1, .i w, .i h, gc (el g.N n) 4, gc (el g.N n) 5], g.E, g.C⟩ := by unfold doneG; rw [hk, hx]; rfl
      have hi := hin hi
      rw [hd, ← spl2 _ hrow] at hi
      have hset : ((g.N.set n (splice (el g.N n) 2 [D.i w])).set n (splice (el (g.N.set n (splice (el g.N n) 2 [D.i w])) n) 3 [D.i h])) = g.N.set n (splice (splice (el g.N n) 2 [D.i w]) 3 [D.i h]) := by
        rw [set_el _ _ _ hlt, List.set_set]
      rw [← hset] at hi
      have c1 : decide ((n : Int) < 0) = false := decide_eq_false (by omega)
      have c2 : decide ((g.N.length : Int) ≤ (n : Int)) = false := decide_eq_false (by omega)
      have c3 : decide ((0 : Int) ≤ (n : Int)) = true := decide_eq_true (by omega)
      have c4 : decide ((n : Int) < (g.N.length : Int)) = true := decide_eq_true hi2.2
      have c5 : ∀ z, decide ((n : Int) < ((g.N.set n z).length : Int)) = true := fun z => by rw [List.length_set]; exact c4
      rw [hx] at hfx ⊢
      simp only [vt10, VT.ok, Nd.holds, X.outs, X.ds, X.d, Op1.ev, Op2.ev, takeD_zero, takeD_cons, List.cons_append, List.nil_append, List.getD_cons_zero, List.getD_cons_succ, D.int_i, D.bool_b, D.lst_l, ite_b, ite_or, Int.toNat_natCast, if_true, Bool.false_eq_true, if_false, implies_true, true_and, takeD1_0, F21, R21, F25, R25, F27, R27, F22, R22, F24, R24, F23, R23, F26, R26, validL, cloneD, hfx, hv, beq_self_eq_true, Bool.not_true, Bool.false_eq_true, if_false, Int.toNat_natCast, c3, c4, c5]
      simp only [show ((5 : Int) == 1) = false from rfl, show ((5 : Int) == 3) = false from rfl, show ((5 : Int) == 4) = false from rfl, show ((5 : Int) == 2) = false from rfl, c1, c2, Bool.or_self, Bool.false_eq_true, if_false]
      exact ⟨fun _ => hcp, fin_ok _ _ _ _ _ hi⟩
    · have ho := hout hi
      subst ho
      rw [hins] at hi
      simp only [show ((5 : Int) == 1) = false from rfl, show ((5 : Int) == 3) = false from rfl, show ((5 : Int) == 4) = false from rfl, Bool.false_eq_true, if_false, Bool.and_eq_true, decide_eq_true_eq] at hi
      have c1 : (decide (a < 0) || decide ((g.N.length : Int) ≤ a)) = true := by simp; omega
      rw [hx] at hfx ⊢
      simp only [vt10, VT.ok, Nd.holds, X.outs, X.ds, X.d, Op1.ev, Op2.ev, takeD_zero, takeD_cons, List.cons_append, List.nil_append, List.getD_cons_zero, List.getD_cons_succ, D.int_i, D.bool_b, D.lst_l, ite_b, ite_or, if_true, Bool.false_eq_true, if_false, implies_true, true_and, takeD1_0, F21, R21, F25, R25, F27, R27, F22, R22, F24, R24, F23, R23, F26, R26, validL, cloneD, hfx, hv, beq_self_eq_true, Bool.not_true, Bool.false_eq_true, if_false]
      simp only [show ((5 : Int) == 1) = false from rfl, show ((5 : Int) == 3) = false from rfl, show ((5 : Int) == 4) = false from rfl, c1, Bool.false_eq_true, if_false, if_true]
      exact rfl
  · -- another label
    by_cases hi : insB g Y = true
    · have hi2 := hi
      rw [hins] at hi2
      simp only [show ((6 : Int) == 1) = false from rfl, show ((6 : Int) == 3) = false from rfl, show ((6 : Int) == 4) = false from rfl, Bool.false_eq_true, if_false, Bool.and_eq_true, decide_eq_true_eq] at hi2
      obtain ⟨n, rfl⟩ := Int.eq_ofNat_of_zero_le hi2.1
      have hlt : n < g.N.length := by omega
      have hrow := fits_node (hN _ (el_mem hlt))
      have hd : doneG g Y = ⟨g.nm, g.dr, g.N.set n [gc (el g.N n) 0, .s t, gc (el g.N n) 2, gc (el g.N n) 3, gc (el g.N n) 4, gc (el g.N n) 5], g.E, g.C⟩ := by unfold doneG; rw [hk, hx]; rfl
      have hi := hin hi
      rw [hd, ← spl1 _ hrow] at hi
      have c1 : decide ((n : Int) < 0) = false := decide_eq_false (by omega)
      have c2 : decide ((g.N.length : Int) ≤ (n : Int)) = false := decide_eq_false (by omega)
      have c3 : decide ((0 : Int) ≤ (n : Int)) = true := decide_eq_true (by omega)
      have c4 : decide ((n : Int) < (g.N.length : Int)) = true := decide_eq_true hi2.2
      rw [hx] at hfx ⊢
      simp only [vt10, VT.ok, Nd.holds, X.outs, X.ds, X.d, Op1.ev, Op2.ev, takeD_zero, takeD_cons, List.cons_append, List.nil_append, List.getD_cons_zero, List.getD_cons_succ, D.int_i, D.bool_b, D.lst_l, ite_b, ite_or, Int.toNat_natCast, if_true, Bool.false_eq_true, if_false, implies_true, true_and, takeD1_0, F21, R21, F25, R25, F27, R27, F22, R22, F24, R24, F23, R23, F26, R26, validL, cloneD, hfx, hv, beq_self_eq_true, Bool.not_true, Bool.false_eq_true, if_false, Int.toNat_natCast, c3, c4]
      simp only [show ((6 : Int) == 1) = false from rfl, show ((6 : Int) == 3) = false from rfl, show ((6 : Int) == 4) = false from rfl, show ((6 : Int) == 2) = false from rfl, show ((6 : Int) == 5) = false from rfl, c1, c2, Bool.or_self, Bool.false_eq_true, if_false]
      exact ⟨fun _ => hcp, fin_ok _ _ _ _ _ hi⟩
    · have ho := hout hi
      subst ho
      rw [hins] at hi
      simp only [show ((6 : Int) == 1) = false from rfl, show ((6 : Int) == 3) = false from rfl, show ((6 : Int) == 4) = false from rfl, Bool.false_eq_true, if_false, Bool.and_eq_true, decide_eq_true_eq] at hi
      have c1 : (decide (a < 0) || decide ((g.N.length : Int) ≤ a)) = true := by simp; omega
      rw [hx] at hfx ⊢
      simp only [vt10, VT.ok, Nd.holds, X.outs, X.ds, X.d, Op1.ev, Op2.ev, takeD_zero, takeD_cons, List.cons_append, List.nil_append, List.getD_cons_zero, List.getD_cons_succ, D.int_i, D.bool_b, D.lst_l, ite_b, ite_or, if_true, Bool.false_eq_true, if_false, implies_true, true_and, takeD1_0, F21, R21, F25, R25, F27, R27, F22, R22, F24, R24, F23, R23, F26, R26, validL, cloneD, hfx, hv, beq_self_eq_true, Bool.not_true, Bool.false_eq_true, if_false]
      simp only [show ((6 : Int) == 1) = false from rfl, show ((6 : Int) == 3) = false from rfl, show ((6 : Int) == 4) = false from rfl, c1, Bool.false_eq_true, if_false, if_true]
      exact rfl
end Go.Proofs.Ythnilbkkihmpoaa.rv
