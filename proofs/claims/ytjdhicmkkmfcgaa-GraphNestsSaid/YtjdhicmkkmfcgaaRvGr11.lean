/-
  Graphs: common clusters; equal lists; skeletons.
-/
import Derived.Test.YtjdhicmkkmfcgaaRvGr10
namespace Go.Proofs.Ytjdhicmkkmfcgaa.rv
open Go.RV

theorem loopM23_0 : LoopMeets Try.prog F (R L23_0.key) L23_0 lb23_0 := by
  refine loop_meets (pre := R) mixed (sgAt_all (P := Try.prog) (pre := R) (Φ := F) (l := sg23) (List.forall_mem_cons.2 ⟨Meets.at (pre := R) (Φ := F) m9, List.forall_mem_cons.2 ⟨Meets.at (pre := R) (Φ := F) m43, List.forall_mem_cons.2 ⟨Meets.at (pre := R) (Φ := F) m42, (fun _ h => nomatch h)⟩⟩⟩)) (loops_n 0 lk23_0 fun k hk => by omega) L23_0 (fun ρ => ((ρ.getD 3 default).int - (ρ.getD 4 default).int).toNat) le23_0 fun ρ _ hq => ?_
  obtain ⟨v, o, l, j, rfl, hj, hm⟩ : prCom ρ := hq
  rw [maxLen_val] at hm
  by_cases hlt : j < l.length
  · simp (disch := omega) only [rt23_0, VT.ok, Nd.holds, X.outs, X.ds, X.d, Op1.ev, Op2.ev, takeD_zero, takeD_cons, List.cons_append, List.nil_append, List.getD_cons_zero, List.getD_cons_succ, D.int_i, D.bool_b, D.lst_l, Int.toNat_natCast, implies_true, true_and, F42, R42, ↓reduceIte, dle_t, dlt_t, w64', ciFn, cL, cI]
    show if anyN (fun k => cI (el l j) 0 == cI (el o k) 0) o.length = true then _ else _
    cases hb : anyN (fun k => cI (el l j) 0 == cI (el o k) 0) o.length
    · simp only [Bool.false_eq_true, if_false]
      refine round_next ⟨⟨v, o, l, j + 1, rfl, by omega, hm⟩, ?_, ?_⟩
      · show ((l.length : Int) - ((j + 1 : Nat) : Int)).toNat < ((l.length : Int) - (j : Int)).toNat
        omega
      · show lpCom [v, .l o, .l l, .i (l.length : Int), .i ((j + 1 : Nat) : Int)] = lpCom [v, .l o, .l l, .i (l.length : Int), .i (j : Int)]
        simp only [lpCom, Int.toNat_natCast]
        exact scan_next hlt hb
    · simp only [if_true]
      refine round_exit (by omega) ?_
      show lpCom [v, .l o, .l l, .i (l.length : Int), .i (j : Int)] = _
      simp only [lpCom, Int.toNat_natCast]
      exact scan_hit hlt hb
  · have hj' : j = l.length := by omega
    subst hj'
    simp (disch := omega) only [rt23_0, VT.ok, X.ds, X.d, Op2.ev, List.getD_cons_zero, List.getD_cons_succ, D.int_i, D.bool_b, Bool.false_eq_true, ↓reduceIte, dlt_f]
    refine round_exit (by omega) ?_
    show lpCom [v, .l o, .l l, .i (l.length : Int), .i (l.length : Int)] = _
    simp only [lpCom, Int.toNat_natCast]
    exact scan_end
theorem com_c {g : Gd} {a b : Int} : ((!(validE g == 0) || decide (min a b < 0)) || decide ((g.N.length : Int) ≤ max a b)) = !decide (validE g = 0 ∧ (0 ≤ a ∧ a < g.N.length) ∧ 0 ≤ b ∧ b < g.N.length) := by
  rw [Bool.eq_iff_iff]
  simp only [Bool.or_eq_true, Bool.not_eq_true', beq_eq_false_iff_ne, decide_eq_true_eq, decide_eq_false_iff_not]
  omega
theorem com_d {g : Gd} {a b : Int} : ((((!(validE g == 0) || decide (a < 0)) || decide ((g.N.length : Int) ≤ a)) || decide (b < 0)) || decide ((g.N.length : Int) ≤ b)) = !decide (validE g = 0 ∧ (0 ≤ a ∧ a < g.N.length) ∧ 0 ≤ b ∧ b < g.N.length) := by
  rw [Bool.eq_iff_iff]
  simp only [Bool.or_eq_true, Bool.not_eq_true', beq_eq_false_iff_ne, decide_eq_true_eq, decide_eq_false_iff_not]
  omega
theorem map_el {l : List Int} {j : Nat} (h : j < l.length) : cI (el (l.map encI) j) 0 = l.getD j 0 := by
  simp only [cI, el]
  rw [rowI h]; rfl
theorem el_map0 {l : List Int} {j : Nat} (h : j < l.length) : (el (l.map encI) j).getD 0 default = .i (l.getD j 0) := by
  simp only [el]
  rw [rowI h]; rfl
theorem m23 : Meets Try.prog 23 S23 (R 23) (F 23) := by
  refine meets_of_vt (pre := R) (Φ := F) mixed (sgAt_all (P := Try.prog) (pre := R) (Φ := F) (l := sg23) (List.forall_mem_cons.2 ⟨Meets.at (pre := R) (Φ := F) m9, List.forall_mem_cons.2 ⟨Meets.at (pre := R) (Φ := F) m43, List.forall_mem_cons.2 ⟨Meets.at (pre := R) (Φ := F) m42, (fun _ h => nomatch h)⟩⟩⟩)) Try.func23 b23 n23 (loops_n 1 k23 fun k hk => match k, hk with | 0, _ => loop_this lf23_0 loopM23_0) e23 fun ds hf hq => ?_
  obtain ⟨g, ds', rfl, h5, _⟩ := fitsG hf.flat
  obtain ⟨x, y, rfl, hx, hy⟩ := fits2 h5
  obtain ⟨a, rfl, _⟩ := wf_i64 hx
  obtain ⟨b, rfl, _⟩ := wf_i64 hy
  have hF : F 23 (.s g.nm :: .b g.dr :: .l g.N :: .l g.E :: .l g.C :: [.i a, .i b]) = [.i (comE g a b)] := rfl
  rw [hF]
  by_cases h : validE g = 0 ∧ (0 ≤ a ∧ a < g.N.length) ∧ 0 ≤ b ∧ b < g.N.length
  · have hv := valid_okV h.1
    have ba := hv.2.2.2 a.toNat (by omega)
    have bb := hv.2.2.2 b.toNat (by omega)
    have ha := okV_at hv ba.1 ba.2
    have hb := okV_at hv bb.1 bb.2
    have hla := around_len (cI (el g.N a.toNat) 4 + 1).toNat _ (by omega) ha.2.2.2
    have hpre : prCom [.i 0, .l ((around g.C (cI (el g.N b.toNat) 4)).map encI), .l ((around g.C (cI (el g.N a.toNat) 4)).map encI), .i ((around g.C (cI (el g.N a.toNat) 4)).length : Int), .i 0] :=
      ⟨_, _, _, 0, by rw [List.length_map]; rfl, by omega, by rw [List.length_map, maxLen_val]; have := ha.2.2.1; omega⟩
    simp (disch := omega) only [vt23, VT.ok, Nd.holds, X.outs, X.ds, X.d, Op1.ev, Op2.ev, takeD_zero, takeD_cons, List.cons_append, List.nil_append, List.getD_cons_zero, List.getD_cons_succ, D.int_i, D.bool_b, D.lst_l, imin, imax, List.length_map, Bool.false_eq_true, implies_true, true_and, F43, R43, F9, R9, F12300, R12300, ↓reduceIte, dle_t, dle_f, dlt_t, dlt_f, beq_t, validD, gOf_eq, Bool.not_true, aroundD, cL, cI, lpCom, Int.toNat_zero, Nat.sub_zero]
    refine ⟨fun _ => hb, fun _ => ha, fun _ => hpre, ?_⟩
    unfold comE
    rw [if_pos h]
    generalize hA : around g.C (cI (el g.N a.toNat) 4) = A
    generalize hB : around g.C (cI (el g.N b.toNat) 4) = B
    rw [scan_fs]
    have hfs : fs (fun j => anyN (fun k => cI (el (A.map encI) j) 0 == cI (el (B.map encI) k) 0) B.length) A.length = fs (fun j => B.contains (A.getD j 0)) A.length := fs_congr fun j hj => by
      rw [map_el hj]; exact any_map _ _
    have e : fs (fun j => anyN (fun k => ((el (A.map encI) j).getD 0 default).int == ((el (B.map encI) k).getD 0 default).int) B.length) A.length = fs (fun j => B.contains (A.getD j 0)) A.length := hfs
    rw [e]
    unfold firstIn
    by_cases h1 : fs (fun j => B.contains (A.getD j 0)) A.length < A.length
    · rw [if_pos h1, if_pos h1, el_map0 h1]
      simp only [takeD_zero, takeD_cons, List.getD_cons_zero, List.getD_cons_succ, D.int_i]
      rw [if_pos (by rfl)]; trivial
    · rw [if_neg h1, if_neg h1]
      simp only [takeD_zero, takeD_cons, List.getD_cons_zero, List.getD_cons_succ, D.int_i]
      rw [if_neg (by decide)]; trivial
  · simp only [vt23, VT.ok, Nd.holds, X.outs, X.ds, X.d, Op1.ev, Op2.ev, takeD_zero, takeD_cons, List.cons_append, List.nil_append, List.getD_cons_zero, List.getD_cons_succ, D.int_i, D.bool_b, D.lst_l, ite_b, ite_or, imin, imax, if_true, implies_true, and_true, F43, R43, F9, R9, F12300, R12300, validD, gOf_eq, com_c, decide_eq_false h, Bool.not_false, comE, if_neg h]
theorem inN_iff {N C : List (List D)} {c : Int} {v : Nat} (h : 0 ≤ c) : inN N C c v = true ↔ c ∈ around C (cI (el N v) 4) := by
  unfold inN
  rw [show decide (c < 0) = false from decide_eq_false (by omega), Bool.false_or, List.contains_iff_mem]
theorem loopM24_0 : LoopMeets Try.prog F (R L24_0.key) L24_0 lb24_0 := by
  refine loop_meets (pre := R) mixed (sgAt_all (P := Try.prog) (pre := R) (Φ := F) (l := sg24) (List.forall_mem_cons.2 ⟨Meets.at (pre := R) (Φ := F) m10, List.forall_mem_cons.2 ⟨Meets.at (pre := R) (Φ := F) m44, List.forall_mem_cons.2 ⟨Meets.at (pre := R) (Φ := F) m46, (fun _ h => nomatch h)⟩⟩⟩)) (loops_n 0 lk24_0 fun k hk => by omega) L24_0 (fun ρ => (((ρ.getD 8 default).lst.length : Int) - (ρ.getD 3 default).int).toNat) le24_0 fun ρ _ hq => ?_
  obtain ⟨a, b, m, j, g, rfl, hj, hv, hm0, hmj, ha, hb⟩ : prComR ρ := hq
  have h16 := hv.2.1
  by_cases hlt : j < g.C.length
  · have pa : prHasF [.s g.nm, .b g.dr, .l g.N, .l g.E, .l g.C, .i (j : Int), .i (a : Int)] := ⟨hv, by show (-1 : Int) ≤ j; omega, a, rfl, ha⟩
    have pb : prHasF [.s g.nm, .b g.dr, .l g.N, .l g.E, .l g.C, .i (j : Int), .i (b : Int)] := ⟨hv, by show (-1 : Int) ≤ j; omega, b, rfl, hb⟩
    have pj : atC g.C j := okV_at hv (by omega) (by omega)
    have pm : atC g.C m := okV_at hv hm0 (by omega)
    have hN : ∀ z, z = bestF g.N g.C a b j m → RoundOk F (R L24_0.key) (fun ρ => (((ρ.getD 8 default).lst.length : Int) - (ρ.getD 3 default).int).toNat) L24_0 [.i (a : Int), .i (b : Int), .i m, .i (j : Int), .s g.nm, .b g.dr, .l g.N, .l g.E, .l g.C] [.i (-1), .i z, .i ((j + 1 : Nat) : Int)] := by
      rintro z rfl
      have hz : -1 ≤ bestF g.N g.C a b j m ∧ bestF g.N g.C a b j m < ((j + 1 : Nat) : Int) := by unfold bestF; split <;> omega
      refine round_next ⟨⟨a, b, _, j + 1, g, rfl, by omega, hv, hz.1, hz.2, ha, hb⟩, ?_, ?_⟩
      · show ((g.C.length : Int) - ((j + 1 : Nat) : Int)).toNat < ((g.C.length : Int) - (j : Int)).toNat
        omega
      · show lpComR [.i (a : Int), .i (b : Int), .i (bestF g.N g.C a b j m), .i ((j + 1 : Nat) : Int), .s g.nm, .b g.dr, .l g.N, .l g.E, .l g.C] = lpComR [.i (a : Int), .i (b : Int), .i m, .i (j : Int), .s g.nm, .b g.dr, .l g.N, .l g.E, .l g.C]
        simp only [lpComR, Int.toNat_natCast]
        rw [fold_next (f := bestF g.N g.C a b) (i := j) hlt]
    simp (disch := omega) only [rt24_0, VT.ok, Nd.holds, X.outs, X.ds, X.d, Op1.ev, Op2.ev, takeD_zero, takeD_cons, List.cons_append, List.nil_append, List.getD_cons_zero, List.getD_cons_succ, D.int_i, D.bool_b, D.lst_l, ite_b, ite_and, Int.toNat_natCast, F46, R46, F44, R44, ↓reduceIte, dlt_t, w64', hasD, depthD, cL, cI, Int.toNat_natCast]
    refine ⟨fun _ => pa, fun _ => pb, fun _ => pj, fun _ => pm, ?_⟩
    cases h1 : inN g.N g.C j a
    · simp only [Bool.false_and, Bool.false_eq_true, if_false]
      exact hN m (by rw [bestF, if_neg (by rw [Int.toNat_natCast, h1]; simp)])
    · cases h2 : inN g.N g.C j b
      · simp only [Bool.false_and, Bool.and_false, Bool.false_eq_true, if_false]
        exact hN m (by rw [bestF, if_neg (by rw [Int.toNat_natCast, Int.toNat_natCast, h2]; simp)])
      · simp only [Bool.true_and]
        by_cases h3 : depth g.C m < depth g.C j
        · rw [if_pos (by exact dec_t h3)]
          exact hN j (by rw [bestF, if_pos ⟨h1, h2, h3⟩])
        · rw [if_neg (by exact dec_f h3)]
          exact hN m (by rw [bestF, if_neg fun h => h3 h.2.2])
  · have hj' : j = g.C.length := by omega
    subst hj'
    simp (disch := omega) only [rt24_0, VT.ok, X.ds, X.d, Op1.ev, Op2.ev, List.getD_cons_zero, List.getD_cons_succ, D.int_i, D.bool_b, D.lst_l, Bool.false_eq_true, ↓reduceIte, dlt_f]
    refine round_exit (by omega) ?_
    show lpComR [.i (a : Int), .i (b : Int), .i m, .i (g.C.length : Int), .s g.nm, .b g.dr, .l g.N, .l g.E, .l g.C] = _
    simp only [lpComR, Int.toNat_natCast, fold_end]
/-- the search for the deepest common cluster finds the first one of the chain -/
theorem best_first {g : Gd} (hv : okV g) {a b : Nat} (ha : a < g.N.length) (hb : b < g.N.length) :
    foldN (bestF g.N g.C a b) g.C.length 0 (-1) = firstIn (around g.C (cI (el g.N b) 4)) (around g.C (cI (el g.N a) 4)) := by
  have ba := hv.2.2.2 a ha
  have bb := hv.2.2.2 b hb
  have hok := hv.2.2.1
  generalize hf : firstIn (around g.C (cI (el g.N b) 4)) (around g.C (cI (el g.N a) 4)) = f
  have hs := firstIn_spec hok (k := cI (el g.N a) 4) (k' := cI (el g.N b) 4) ba.2
  rw [hf] at hs
  have key : ∀ (n i : Nat) (m : Int), i + n = g.C.length → -1 ≤ m → m < i → (0 ≤ m → m ∈ around g.C (cI (el g.N a) 4) ∧ m ∈ around g.C (cI (el g.N b) 4)) → (f < i → m = f) → foldN (bestF g.N g.C a b) g.C.length i m = f := by
    intro n
    induction n with
    | zero =>
      intro i m hi hm0 hmi hmm hmf
      have hfl : f < i := by
        rcases hs with ⟨h1, _⟩ | ⟨h1, _, _⟩
        · omega
        · have := ar_mem hok _ _ (by omega : cI (el g.N a) 4 < ((cI (el g.N a) 4 + 1).toNat : Nat)) ba.2 f h1
          omega
      rw [show i = g.C.length by omega, fold_end]
      exact hmf hfl
    | succ n ih =>
      intro i m hi hm0 hmi hmm hmf
      rw [fold_next (f := bestF g.N g.C a b) (i := i) (by omega)]
      have hin : ∀ v : Nat, inN g.N g.C i v = true ↔ (i : Int) ∈ around g.C (cI (el g.N v) 4) := fun v => inN_iff (by omega)
      by_cases hc : inN g.N g.C i a = true ∧ inN g.N g.C i b = true ∧ depth g.C m < depth g.C i
      · have e : bestF g.N g.C a b i m = i := by rw [bestF, if_pos (by rw [Int.toNat_natCast, Int.toNat_natCast]; exact hc)]
        rw [e]
        have h1 := (hin a).1 hc.1
        have h2 := (hin b).1 hc.2.1
        refine ih (i + 1) i (by omega) (by omega) (by omega) (fun _ => ⟨h1, h2⟩) fun hfi => ?_
        rcases hs with ⟨_, h4⟩ | ⟨h3, h4, h5⟩
        · exact absurd h2 (h4 _ h1)
        · by_cases ef : f = i
          · exact ef.symm
          · have := hmf (by omega)
            subst this
            have := h5 _ h1 h2
            omega
      · have e : bestF g.N g.C a b i m = m := by rw [bestF, if_neg (by rw [Int.toNat_natCast, Int.toNat_natCast]; exact hc)]
        rw [e]
        refine ih (i + 1) m (by omega) hm0 (by omega) hmm fun hfi => ?_
        by_cases ef : f = i
        · rcases hs with ⟨h1, _⟩ | ⟨h3, h4, h5⟩
          · omega
          · rw [ef] at h3 h4
            exfalso
            refine hc ⟨(hin a).2 h3, (hin b).2 h4, ?_⟩
            by_cases h0 : 0 ≤ m
            · have hm := hmm h0
              have h6 := h5 _ hm.1 hm.2
              rw [ef] at h6
              have h7 : depth g.C m ≠ depth g.C i := fun h => by
                have := ar_depth hok ba.2 hm.1 h3 h
                omega
              omega
            · rw [depth_neg (by omega)]
              exact depth_pos hok (by omega) (by omega)
        · exact hmf (by omega)
  refine key g.C.length 0 (-1) (by omega) (by omega) (by omega) (fun h => by omega) fun hf0 => ?_
  rcases hs with ⟨h1, _⟩ | ⟨h1, _, _⟩
  · exact h1.symm
  · have := ar_mem hok _ _ (by omega : cI (el g.N a) 4 < ((cI (el g.N a) 4 + 1).toNat : Nat)) ba.2 f h1
    omega
theorem m24 : Meets Try.prog 24 S24 (R 24) (F 24) := by
  refine meets_of_vt (pre := R) (Φ := F) mixed (sgAt_all (P := Try.prog) (pre := R) (Φ := F) (l := sg24) (List.forall_mem_cons.2 ⟨Meets.at (pre := R) (Φ := F) m10, List.forall_mem_cons.2 ⟨Meets.at (pre := R) (Φ := F) m44, List.forall_mem_cons.2 ⟨Meets.at (pre := R) (Φ := F) m46, (fun _ h => nomatch h)⟩⟩⟩)) Try.func24 b24 n24 (loops_n 1 k24 fun k hk => match k, hk with | 0, _ => loop_this lf24_0 loopM24_0) e24 fun ds hf hq => ?_
  obtain ⟨g, ds', rfl, h5, _⟩ := fitsG hf.flat
  obtain ⟨x, y, rfl, hx, hy⟩ := fits2 h5
  obtain ⟨a, rfl, _⟩ := wf_i64 hx
  obtain ⟨b, rfl, _⟩ := wf_i64 hy
  have hF : F 24 (.s g.nm :: .b g.dr :: .l g.N :: .l g.E :: .l g.C :: [.i a, .i b]) = [.i (comE g a b)] := rfl
  rw [hF]
  by_cases h : validE g = 0 ∧ (0 ≤ a ∧ a < g.N.length) ∧ 0 ≤ b ∧ b < g.N.length
  · have hv := valid_okV h.1
    obtain ⟨a', rfl⟩ : ∃ n : Nat, a = n := ⟨a.toNat, by omega⟩
    obtain ⟨b', rfl⟩ : ∃ n : Nat, b = n := ⟨b.toNat, by omega⟩
    have hpre : prComR [.i (a' : Int), .i (b' : Int), .i (-1), .i 0, .s g.nm, .b g.dr, .l g.N, .l g.E, .l g.C] := ⟨a', b', -1, 0, g, rfl, by omega, hv, by omega, by omega, by omega, by omega⟩
    simp (disch := omega) only [vt24, VT.ok, Nd.holds, X.outs, X.ds, X.d, Op1.ev, Op2.ev, takeD_zero, takeD_cons, List.cons_append, List.nil_append, List.getD_cons_zero, List.getD_cons_succ, D.int_i, D.bool_b, D.lst_l, Int.toNat_natCast, Bool.false_eq_true, implies_true, true_and, and_true, F10, R10, F12400, R12400, ↓reduceIte, dle_f, dlt_f, beq_t, validD, gOf_eq, Bool.not_true, lpComR, Int.toNat_zero, comE, if_pos h, best_first hv (a := a') (b := b') (by omega) (by omega), Int.toNat_natCast]
    exact fun _ => hpre
  · simp only [vt24, VT.ok, Nd.holds, X.outs, X.ds, X.d, Op1.ev, Op2.ev, takeD_zero, takeD_cons, List.cons_append, List.nil_append, List.getD_cons_zero, List.getD_cons_succ, D.int_i, D.bool_b, D.lst_l, ite_b, ite_or, if_true, implies_true, and_true, F10, R10, F12400, R12400, validD, gOf_eq, com_d, decide_eq_false h, Bool.not_false, comE, if_neg h]
end Go.Proofs.Ytjdhicmkkmfcgaa.rv
