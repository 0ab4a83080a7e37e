/-
  Packed texts: the law.
-/
import Derived.Test.YtoajdhghecjdlaaZTopPackedM
namespace Go.Proofs.Ytoajdhghecjdlaa.rv
set_option maxRecDepth 10000
open Go.RV
theorem m4 : Meets Try.prog 4 S4 (R 4) (F 4) := by
  refine meets_of_vt (pre := R) (Φ := F) mixed (sgAt_all (P := Try.prog) (pre := R) (Φ := F) (l := sg4) (List.forall_mem_cons.2 ⟨Meets.at (pre := R) (Φ := F) m12, (fun _ h => nomatch h)⟩)) Try.func4 b4 n4 (loops_n 0 k4 fun k hk => by omega) e4 fun ds hf hq => ?_
  have e0 := fits0 hf.flat
  subst e0
  have hp : ∀ a b c d e f g h x9 x10 x11 x12 x13 x14 x15 : D, prBuild [a, b, c, d, e, f, g, .l [], h, x9, x10, x11, x12, x13, x14, x15] := fun _ _ _ _ _ _ _ _ _ _ _ _ _ _ _ x hx => by cases hx
  simp only [vt4, VT.ok, Nd.holds, X.outs, X.ds, X.d, Op1.ev, Op2.ev, List.nil_append, D.int_i, D.bool_b, D.lst_l, F12, R12, F4]
  exact ⟨fun _ => hp _ _ _ _ _ _ _ _ _ _ _ _ _ _ _, by kernel_rfl⟩
theorem lpU0_eq (xs : List (List D)) (v : D) (j : Nat) (acc : List (List D)) : lpU0 [.l xs, v, .i (j : Int), .l acc] = tz xs v (xs.length - j) j acc := by
  simp only [lpU0, Int.toNat_natCast]
theorem size1 (x : D) : tszD [.l [[x]]] = [.i (max 0 (wid (cS [x] 0))), .i 1000] := rfl
theorem loopM3_0 : LoopMeets Try.prog F (R L3_0.key) L3_0 lb3_0 := by
  refine loop_meets (pre := R) mixed (sgAt_all (P := Try.prog) (pre := R) (Φ := F) (l := sg3) (List.forall_mem_cons.2 ⟨Meets.at (pre := R) (Φ := F) m4, List.forall_mem_cons.2 ⟨Meets.at (pre := R) (Φ := F) m5, List.forall_mem_cons.2 ⟨Meets.at (pre := R) (Φ := F) m6, List.forall_mem_cons.2 ⟨Meets.at (pre := R) (Φ := F) m7, List.forall_mem_cons.2 ⟨Meets.at (pre := R) (Φ := F) m8, List.forall_mem_cons.2 ⟨Meets.at (pre := R) (Φ := F) m9, List.forall_mem_cons.2 ⟨Meets.at (pre := R) (Φ := F) m10, List.forall_mem_cons.2 ⟨Meets.at (pre := R) (Φ := F) m11, (fun _ h => nomatch h)⟩⟩⟩⟩⟩⟩⟩⟩)) (loops_n 0 lk3_0 fun k hk => by omega) L3_0 (fun ρ => (((ρ.getD 0 default).lst.length : Int) - (ρ.getD 2 default).int).toNat) le3_0 fun ρ _ hq => ?_
  obtain ⟨xs, v, j, acc, rfl, hj, h8, hacc⟩ : prU0 ρ := hq
  by_cases hlt : j < xs.length
  · have hd : xs.length - j = (xs.length - (j + 1)) + 1 := by omega
    simp (disch := omega) only [rt3_0, VT.ok, Nd.holds, X.outs, X.ds, X.d, Op1.ev, Op2.ev, takeD_zero, takeD_cons, List.cons_append, List.nil_append, List.getD_cons_zero, List.getD_cons_succ, D.int_i, D.bool_b, D.lst_l, Int.toNat_natCast, implies_true, true_and, F4, R4, F5, R5, ↓reduceIte, dle_t, dlt_t, w64', snoc_le, size1, oneD]
    show if longT xs j = true then _ else _
    cases hl : longT xs j
    · rw [if_neg (by decide)]
      have h20 : (cS (el xs j) 0).size ≤ 20 := by
        simp only [longT, decide_eq_false_iff_not] at hl; omega
      have hw := wid_le h20
      have hpre : tszP [.l [[(xs.getD j []).getD 0 default]]] := ⟨_, rfl, by simp, fun k hk => by
        have : k = 0 := by simpa using hk
        subst this
        exact h20⟩
      refine ⟨fun _ => hpre, ?_⟩
      refine round_next ⟨⟨xs, v, j + 1, acc ++ [encP (szT xs j)], ?_, by omega, h8, ?_⟩, ?_, ?_⟩
      · show [D.l xs, v, .i ((j + 1 : Nat) : Int), .l (acc ++ [[.i (max 0 (wid (cS (el xs j) 0))), .i 1000]])] = _
        rw [Int.max_eq_right hw.1]; rfl
      · rw [List.length_append]; simp only [List.length_singleton]; omega
      · show ((xs.length : Int) - ((j + 1 : Nat) : Int)).toNat < ((xs.length : Int) - (j : Int)).toNat
        omega
      · show lpU0 [.l xs, v, .i ((j + 1 : Nat) : Int), .l (acc ++ [[.i (max 0 (wid (cS (el xs j) 0))), .i 1000]])] = lpU0 [.l xs, v, .i (j : Int), .l acc]
        rw [Int.max_eq_right hw.1, lpU0_eq, lpU0_eq, hd, tz, hl, if_neg (by decide)]
        rfl
    · rw [if_pos rfl]
      refine round_exit (by omega) ?_
      rw [show F L3_0.key = lpU0 from rfl, lpU0_eq, hd, tz, hl, if_pos rfl]
  · have hj : j = xs.length := by omega
    subst hj
    simp (disch := omega) only [rt3_0, VT.ok, X.ds, X.d, Op1.ev, Op2.ev, List.getD_cons_zero, List.getD_cons_succ, D.int_i, D.bool_b, D.lst_l, Bool.false_eq_true, ↓reduceIte, dlt_f]
    refine round_exit (by omega) ?_
    rw [show F L3_0.key = lpU0 from rfl, lpU0_eq, Nat.sub_self, tz]
theorem rowNn {l : List Nat} {i : Nat} (h : i < l.length) : (l.map encN).getD i [] = encN (l.getD i 0) := row_get 0 h
theorem loopM3_2 : LoopMeets Try.prog F (R L3_2.key) L3_2 lb3_2 := by
  refine loop_meets (pre := R) mixed (sgAt_all (P := Try.prog) (pre := R) (Φ := F) (l := sg3) (List.forall_mem_cons.2 ⟨Meets.at (pre := R) (Φ := F) m4, List.forall_mem_cons.2 ⟨Meets.at (pre := R) (Φ := F) m5, List.forall_mem_cons.2 ⟨Meets.at (pre := R) (Φ := F) m6, List.forall_mem_cons.2 ⟨Meets.at (pre := R) (Φ := F) m7, List.forall_mem_cons.2 ⟨Meets.at (pre := R) (Φ := F) m8, List.forall_mem_cons.2 ⟨Meets.at (pre := R) (Φ := F) m9, List.forall_mem_cons.2 ⟨Meets.at (pre := R) (Φ := F) m10, List.forall_mem_cons.2 ⟨Meets.at (pre := R) (Φ := F) m11, (fun _ h => nomatch h)⟩⟩⟩⟩⟩⟩⟩⟩)) (loops_n 0 lk3_2 fun k hk => by omega) L3_2 (fun ρ => (((ρ.getD 1 default).lst.length : Int) - (ρ.getD 5 default).int).toNat) le3_2 fun ρ _ hq => ?_
  obtain ⟨v, B, A, l, i, j, rfl, hj, hi, h64, hcl⟩ : prU2 ρ := hq
  obtain ⟨c1, c2⟩ := hcl _ (getD_mem 0 hi)
  by_cases hlt : j < B.length
  · have c3 : ovQ ((A.getD (l.getD i 0) z4).1, (A.getD (l.getD i 0) z4).2.1, (A.getD (l.getD i 0) z4).2.2.1, (A.getD (l.getD i 0) z4).2.2.2) ((B.getD j z4).1, (B.getD j z4).2.1, (B.getD j z4).2.2.1, (B.getD j z4).2.2.2) = false := c2 j hlt
    simp (disch := omega) only [rt3_2, VT.ok, Nd.holds, X.outs, X.ds, X.d, Op1.ev, Op2.ev, takeD_zero, takeD_cons, List.cons_append, List.nil_append, List.getD_cons_zero, List.getD_cons_succ, D.int_i, D.bool_b, D.lst_l, Int.toNat_natCast, List.length_map, Bool.false_eq_true, implies_true, true_and, F10, R10, ↓reduceIte, dle_t, dlt_t, w64', rowNn, encN, rowQz, encQ, List.length_map, fn10_eq, c3]
    refine round_next ⟨⟨v, B, A, l, i, j + 1, rfl, by omega, hi, h64, hcl⟩, ?_, rfl⟩
    show (((B.map encQ).length : Int) - ((j + 1 : Nat) : Int)).toNat < (((B.map encQ).length : Int) - (j : Int)).toNat
    rw [List.length_map]; omega
  · have hj : j = B.length := by omega
    subst hj
    simp (disch := omega) only [rt3_2, VT.ok, X.ds, X.d, Op1.ev, Op2.ev, List.getD_cons_zero, List.getD_cons_succ, D.int_i, D.bool_b, D.lst_l, List.length_map, Bool.false_eq_true, ↓reduceIte, dlt_f, List.length_map]
    refine round_exit (by omega) ?_
    show lpU2 [v, .l (B.map encQ), .l (A.map encQ), .l (l.map encN), .i (i : Int), .i (B.length : Int)] = _
    simp only [lpU2, List.length_map]
theorem loopM3_1 : LoopMeets Try.prog F (R L3_1.key) L3_1 lb3_1 := by
  refine loop_meets (pre := R) mixed (sgAt_all (P := Try.prog) (pre := R) (Φ := F) (l := sg3) (List.forall_mem_cons.2 ⟨Meets.at (pre := R) (Φ := F) m4, List.forall_mem_cons.2 ⟨Meets.at (pre := R) (Φ := F) m5, List.forall_mem_cons.2 ⟨Meets.at (pre := R) (Φ := F) m6, List.forall_mem_cons.2 ⟨Meets.at (pre := R) (Φ := F) m7, List.forall_mem_cons.2 ⟨Meets.at (pre := R) (Φ := F) m8, List.forall_mem_cons.2 ⟨Meets.at (pre := R) (Φ := F) m9, List.forall_mem_cons.2 ⟨Meets.at (pre := R) (Φ := F) m10, List.forall_mem_cons.2 ⟨Meets.at (pre := R) (Φ := F) m11, (fun _ h => nomatch h)⟩⟩⟩⟩⟩⟩⟩⟩)) (loops_n 1 lk3_1 fun k hk => match k, hk with | 0, _ => by rw [li3_1_0]; exact loop_this lf3_2 loopM3_2) L3_1 (fun ρ => (((ρ.getD 3 default).lst.length : Int) - (ρ.getD 4 default).int).toNat) le3_1 fun ρ _ hq => ?_
  obtain ⟨v, B, A, l, j, rfl, hj, h64, hB, hcl⟩ : prU1 ρ := hq
  by_cases hlt : j < l.length
  · obtain ⟨c1, c2⟩ := hcl _ (getD_mem 0 hlt)
    have h1 : lpU2 [v, .l (B.map encQ), .l (A.map encQ), .l (l.map encN), .i (j : Int), .i 0] = [.i 1, v, .i (B.length : Int)] := by
      simp only [lpU2, List.length_map]
    have hpre : prU2 [v, .l (B.map encQ), .l (A.map encQ), .l (l.map encN), .i (j : Int), .i 0] := ⟨v, B, A, l, j, 0, rfl, by omega, hlt, hB, hcl⟩
    simp (disch := omega) only [rt3_1, VT.ok, Nd.holds, X.outs, X.ds, X.d, Op1.ev, Op2.ev, takeD_zero, takeD_cons, List.cons_append, List.nil_append, List.getD_cons_zero, List.getD_cons_succ, D.int_i, D.bool_b, D.lst_l, Int.toNat_natCast, List.length_map, Bool.false_eq_true, implies_true, true_and, F10301, R10301, ↓reduceIte, dle_t, dle_f, dlt_t, dlt_f, beq_f, w64', rowNn, encN, List.length_map, h1]
    refine ⟨fun _ => hpre, ?_⟩
    refine round_next ⟨⟨v, B, A, l, j + 1, rfl, by omega, h64, hB, hcl⟩, ?_, rfl⟩
    show (((l.map encN).length : Int) - ((j + 1 : Nat) : Int)).toNat < (((l.map encN).length : Int) - (j : Int)).toNat
    rw [List.length_map]; omega
  · have hj : j = l.length := by omega
    subst hj
    simp (disch := omega) only [rt3_1, VT.ok, X.ds, X.d, Op1.ev, Op2.ev, List.getD_cons_zero, List.getD_cons_succ, D.int_i, D.bool_b, D.lst_l, List.length_map, Bool.false_eq_true, ↓reduceIte, dlt_f, List.length_map]
    refine round_exit (by omega) ?_
    show lpU1 [v, .l (B.map encQ), .l (A.map encQ), .l (l.map encN), .i (l.length : Int)] = _
    simp only [lpU1, List.length_map]
theorem loopM3_3 : LoopMeets Try.prog F (R L3_3.key) L3_3 lb3_3 := by
  refine loop_meets (pre := R) mixed (sgAt_all (P := Try.prog) (pre := R) (Φ := F) (l := sg3) (List.forall_mem_cons.2 ⟨Meets.at (pre := R) (Φ := F) m4, List.forall_mem_cons.2 ⟨Meets.at (pre := R) (Φ := F) m5, List.forall_mem_cons.2 ⟨Meets.at (pre := R) (Φ := F) m6, List.forall_mem_cons.2 ⟨Meets.at (pre := R) (Φ := F) m7, List.forall_mem_cons.2 ⟨Meets.at (pre := R) (Φ := F) m8, List.forall_mem_cons.2 ⟨Meets.at (pre := R) (Φ := F) m9, List.forall_mem_cons.2 ⟨Meets.at (pre := R) (Φ := F) m10, List.forall_mem_cons.2 ⟨Meets.at (pre := R) (Φ := F) m11, (fun _ h => nomatch h)⟩⟩⟩⟩⟩⟩⟩⟩)) (loops_n 0 lk3_3 fun k hk => by omega) L3_3 (fun ρ => (((ρ.getD 0 default).lst.length : Int) - (ρ.getD 3 default).int).toNat) le3_3 fun ρ _ hq => ?_
  obtain ⟨xs, v, B, j, rfl, hj, h8, hB, hs, hx⟩ : prU3 ρ := hq
  by_cases hlt : j < xs.length
  · obtain ⟨x1, x2⟩ := hx j hlt
    have s := hs _ (getD_mem z4 (show j < B.length by omega))
    have w1 : IntKind.i64.wrap ((B.getD j z4).2.2.1 - (B.getD j z4).1) = wid (cS (el xs j) 0) := by
      rw [w64 (by omega)]
      exact congrArg Prod.fst x2
    have w2 : IntKind.i64.wrap ((B.getD j z4).2.2.2 - (B.getD j z4).2.1) = 1000 := by
      rw [w64 (by omega)]
      exact congrArg Prod.snd x2
    have hw : widD [(xs.getD j []).getD 0 default] = [.i (wid (cS (el xs j) 0))] := rfl
    have hpre : widP [(xs.getD j []).getD 0 default] := x1
    simp (disch := omega) only [rt3_3, VT.ok, Nd.holds, X.outs, X.ds, X.d, Op1.ev, Op2.ev, takeD_zero, takeD_cons, List.cons_append, List.nil_append, List.getD_cons_zero, List.getD_cons_succ, D.int_i, D.bool_b, D.lst_l, Int.toNat_natCast, List.length_map, Bool.false_eq_true, implies_true, true_and, F11, R11, ↓reduceIte, dle_t, dlt_t, beq_t, w64', rowQz, encQ, List.length_map, hw, w1, w2, Bool.not_true]
    refine ⟨fun _ => hpre, ?_⟩
    refine round_next ⟨⟨xs, v, B, j + 1, rfl, by omega, h8, hB, hs, hx⟩, ?_, rfl⟩
    show ((xs.length : Int) - ((j + 1 : Nat) : Int)).toNat < ((xs.length : Int) - (j : Int)).toNat
    omega
  · have hj : j = xs.length := by omega
    subst hj
    simp (disch := omega) only [rt3_3, VT.ok, X.ds, X.d, Op1.ev, Op2.ev, List.getD_cons_zero, List.getD_cons_succ, D.int_i, D.bool_b, D.lst_l, Bool.false_eq_true, ↓reduceIte, dlt_f]
    refine round_exit (by omega) ?_
    show lpU3 [.l xs, v, .l (B.map encQ), .i (xs.length : Int)] = _
    simp only [lpU3]
theorem bestD_eq (l : List Pt) (g : Int) : bestD [.l (l.map encP), .i g] = [.l ((if cerr l 0 g = 0 then best l g else []).map encQ), .i (cerr l 0 g)] := by simp only [bestD, map_decP]
theorem szs_get {xs : List (List D)} {k : Nat} (hk : k < xs.length) : ((List.range xs.length).map (szT xs)).getD k pz = szT xs k := by
  simp [List.getD, hk]
theorem free_clr (A B : List Bx) : clr B A (freeL A B) := fun i hi => by
  obtain ⟨h1, h2⟩ := pick_lt hi
  unfold freeAt at h2
  rw [Bool.and_eq_true, Bool.not_eq_true'] at h2
  exact ⟨h1, fun k hk => anyN_false.1 h2.2 k hk⟩
theorem law3 : Meets Try.prog 3 S3 (fun _ => True) (fun _ => [.b true]) := by
  refine meets_of_vt (pre := R) (Φ := F) mixed (sgAt_all (P := Try.prog) (pre := R) (Φ := F) (l := sg3) (List.forall_mem_cons.2 ⟨Meets.at (pre := R) (Φ := F) m4, List.forall_mem_cons.2 ⟨Meets.at (pre := R) (Φ := F) m5, List.forall_mem_cons.2 ⟨Meets.at (pre := R) (Φ := F) m6, List.forall_mem_cons.2 ⟨Meets.at (pre := R) (Φ := F) m7, List.forall_mem_cons.2 ⟨Meets.at (pre := R) (Φ := F) m8, List.forall_mem_cons.2 ⟨Meets.at (pre := R) (Φ := F) m9, List.forall_mem_cons.2 ⟨Meets.at (pre := R) (Φ := F) m10, List.forall_mem_cons.2 ⟨Meets.at (pre := R) (Φ := F) m11, (fun _ h => nomatch h)⟩⟩⟩⟩⟩⟩⟩⟩)) Try.func3 b3 n3 (loops_n 4 k3 fun k hk => match k, hk with | 0, _ => loop_this lf3_0 loopM3_0 | 1, _ => loop_this lf3_1 loopM3_1 | 2, _ => loop_this lf3_2 loopM3_2 | 3, _ => loop_this lf3_3 loopM3_3) e3 fun ds hf _ => ?_
  match ds, hf.flat with
  | [x, y, z], ⟨hx, hy, hz, _⟩ =>
    obtain ⟨xs, rfl, hm, _⟩ := wf_sl hx
    obtain ⟨g, rfl, _⟩ := wf_i64 hy
    obtain ⟨a, rfl, _⟩ := wf_i64 hz
    simp only [vt3, VT.ok, Nd.holds, X.outs, X.ds, X.d, Op1.ev, Op2.ev, takeD_zero, takeD_cons, List.cons_append, List.nil_append, List.getD_cons_zero, List.getD_cons_succ, D.int_i, D.bool_b, D.lst_l, ite_b, ite_or, implies_true, true_and, and_true, F4, R4, F6, R6, F7, R7, F8, R8, F9, R9, F10300, R10300, F10302, R10302, F10303, R10303, oneD]
    split
    · trivial
    · rename_i hc
      simp only [Bool.or_eq_true, decide_eq_true_eq] at hc
      have h8 : xs.length ≤ 8 := by omega
      have hg : 0 ≤ g ∧ g ≤ 100000 := by omega
      have ha : 0 ≤ a ∧ a < xs.length := by omega
      have hlp := lpU0_eq xs (.b false) 0 []
      simp only [Int.natCast_zero, Nat.sub_zero] at hlp
      refine ⟨fun _ => ⟨xs, _, 0, [], rfl, by omega, h8, by simp⟩, ?_⟩
      rcases tz_spec xs (.b false) xs.length 0 [] (by omega) with ⟨_, j, b, e⟩ | ⟨hs, e⟩
      · rw [e] at hlp
        simp only [hlp, takeD_zero, takeD_cons, List.cons_append, List.nil_append, List.getD_cons_zero, List.getD_cons_succ, D.int_i, if_true, show ((0 : Int) == 0) = true from rfl]
      · rw [e, List.drop_zero, List.nil_append] at hlp
        have h20 : ∀ k, k < xs.length → (cS (el xs k) 0).size ≤ 20 := fun k hk => by
          have := hs k (by omega) hk
          simp only [longT, decide_eq_false_iff_not] at this
          omega
        generalize hS : (List.range xs.length).map (szT xs) = Z at hlp
        have hZl : Z.length = xs.length := by rw [← hS]; simp
        have hZ : ∀ k, k < xs.length → Z.getD k pz = (wid (cS (el xs k) 0), 1000) := fun k hk => by rw [← hS, szs_get hk]; rfl
        have hok : szOk Z := fun p hp => by
          rw [← hS] at hp
          obtain ⟨k, hk, rfl⟩ := List.mem_map.1 hp
          have hk' : k < xs.length := by simpa using hk
          have := wid_le (h20 k hk')
          unfold szT
          simp only
          omega
        have hce : cerr Z 0 g = 0 := cerr_any hok (by omega) (by omega) (by omega)
        have hbl := best_len Z g
        have hB := bestD_eq Z g
        rw [hce, if_pos rfl] at hB
        have hdj := disjD_eq (best Z g) g
        rw [plain_best hce] at hdj
        have hat : a.toNat < (best Z g).length := by omega
        have har := arndD_eq ((best Z g).getD a.toNat z4) 600 1000 g
        have hfr := freeD_eq (arnd ((best Z g).getD a.toNat z4) 600 1000 g) (best Z g)
        have hal := arnd_len ((best Z g).getD a.toNat z4) 600 1000 g
        have hfl : (freeL (arnd ((best Z g).getD a.toNat z4) 600 1000 g) (best Z g)).length ≤ (arnd ((best Z g).getD a.toNat z4) 600 1000 g).length := pick_len _ _
        have hclr := free_clr (arnd ((best Z g).getD a.toNat z4) 600 1000 g) (best Z g)
        have hext : ∀ k, k < xs.length → extQ ((best Z g).getD k z4) = (wid (cS (el xs k) 0), 1000) := fun k hk => by rw [best_ext hce (by omega), hZ k hk]
        have hval : ∀ q ∈ best Z g, bxQ q = true := fun q hq => best_ok hce hq
        generalize best Z g = B at *
        generalize arnd (B.getD a.toNat z4) 600 1000 g = A at *
        generalize freeL A B = l at *
        have hbp : bestPre [.l (Z.map encP), .i g] := ⟨Z, g, rfl, by rw [maxLen_val]; omega⟩
        have hfp : freePre [.l (A.map encQ), .l (B.map encQ)] := ⟨A, B, rfl, by omega, by rw [maxLen_val]; omega⟩
        have q1 : lpU1 [.b false, .l (B.map encQ), .l (A.map encQ), .l (l.map encN), .i 0] = [.i 1, .b false, .i (l.length : Int)] := by simp only [lpU1, List.length_map]
        have q3 : lpU3 [.l xs, .b false, .l (B.map encQ), .i 0] = [.i 1, .b false, .i (xs.length : Int)] := by simp only [lpU3]
        have r1 : prU1 [.b false, .l (B.map encQ), .l (A.map encQ), .l (l.map encN), .i 0] := ⟨_, B, A, l, 0, rfl, by omega, by omega, by omega, hclr⟩
        have r3 : prU3 [.l xs, .b false, .l (B.map encQ), .i 0] := ⟨xs, _, B, 0, rfl, by omega, h8, by omega, fun q hq => by have := bxB_iff.1 (hval q hq); omega, fun k hk => ⟨h20 k hk, hext k hk⟩⟩
        simp (disch := omega) only [hlp, takeD_zero, takeD_cons, List.cons_append, List.nil_append, List.getD_cons_zero, List.getD_cons_succ, D.int_i, D.bool_b, D.lst_l, List.length_map, Bool.false_eq_true, implies_true, true_and, and_true, ↓reduceIte, dle_t, dlt_t, beq_t, show ((1 : Int) == 0) = false from rfl, hB, hdj, List.length_map, rowQz, encQ, har, hfr, q1, q3, Bool.not_true, Bool.or_self]
        exact ⟨fun _ => hbp, fun _ => hfp, fun _ => r1, fun _ => r3⟩
end Go.Proofs.Ytoajdhghecjdlaa.rv
