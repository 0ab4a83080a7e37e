/-
  Chapter 11: the laws.
-/
import Derived.Test.YtjdhicmkkmfcgaaRvGr13
namespace Go.Proofs.Ytjdhicmkkmfcgaa.rv
open Go.RV

theorem loopM7_0 : LoopMeets Try.prog F (R L7_0.key) L7_0 lb7_0 := by
  refine loop_meets (pre := R) mixed (sgAt_all (P := Try.prog) (pre := R) (Φ := F) (l := sg7) ((fun _ h => nomatch h))) (loops_n 0 lk7_0 fun k hk => by omega) L7_0 (fun ρ => (((ρ.getD 4 default).lst.length : Int) - (ρ.getD 1 default).int).toNat) le7_0 fun ρ _ hq => ?_
  obtain ⟨v, a, b, N, c, d, j, rfl, hj, hm⟩ : prSmall ρ := hq
  rw [maxLen_val] at hm
  by_cases hlt : j < N.length
  · simp (disch := omega) only [rt7_0, VT.ok, Nd.holds, X.ds, X.d, Op1.ev, Op2.ev, List.getD_cons_zero, List.getD_cons_succ, D.int_i, D.bool_b, D.lst_l, ite_b, ite_or, Int.toNat_natCast, implies_true, true_and, ↓reduceIte, dle_t, dlt_t, w64']
    show if smallP N j = true then _ else _
    cases hb : smallP N j
    · simp only [Bool.false_eq_true, if_false]
      refine round_next ⟨⟨v, a, b, N, c, d, j + 1, rfl, by omega, hm⟩, ?_, ?_⟩
      · show ((N.length : Int) - ((j + 1 : Nat) : Int)).toNat < ((N.length : Int) - (j : Int)).toNat
        omega
      · show lpSmall [v, .i ((j + 1 : Nat) : Int), a, b, .l N, c, d] = lpSmall [v, .i (j : Int), a, b, .l N, c, d]
        simp only [lpSmall, Int.toNat_natCast]
        exact scan_next hlt hb
    · simp only [if_true]
      refine round_exit (by omega) ?_
      show lpSmall [v, .i (j : Int), a, b, .l N, c, d] = _
      simp only [lpSmall, Int.toNat_natCast]
      exact scan_hit hlt hb
  · have hj' : j = N.length := by omega
    subst hj'
    simp (disch := omega) only [rt7_0, VT.ok, X.ds, X.d, Op1.ev, Op2.ev, List.getD_cons_zero, List.getD_cons_succ, D.int_i, D.bool_b, D.lst_l, Bool.false_eq_true, ↓reduceIte, dlt_f]
    refine round_exit (by omega) ?_
    show lpSmall [v, .i (N.length : Int), a, b, .l N, c, d] = _
    simp only [lpSmall, Int.toNat_natCast]
    exact scan_end
theorem nor4 (a b c d e : Bool) : (!(((a || b) || c) || d) && e) = if (((a || b) || c) || d) = true then false else e := by
  cases a <;> cases b <;> cases c <;> cases d <;> cases e <;> rfl
theorem m7 : Meets Try.prog 7 S7 (R 7) (F 7) := by
  refine meets_of_vt (pre := R) (Φ := F) mixed (sgAt_all (P := Try.prog) (pre := R) (Φ := F) (l := sg7) ((fun _ h => nomatch h))) Try.func7 b7 n7 (loops_n 1 k7 fun k hk => match k, hk with | 0, _ => loop_this lf7_0 loopM7_0) e7 fun ds hf hq => ?_
  obtain ⟨g, ds', rfl, h5, _, ⟨hmN, _⟩, _⟩ := fitsG hf.flat
  have e0 := fits0 h5
  subst e0
  have hF : F 7 (.s g.nm :: .b g.dr :: .l g.N :: .l g.E :: .l g.C :: []) = [.b (smallB g)] := rfl
  rw [hF]
  generalize hv : smallB g = res
  rw [smallB, nor4] at hv
  have hpre : prSmall [.b false, .i 0, .s g.nm, .b g.dr, .l g.N, .l g.E, .l g.C] := ⟨_, _, _, g.N, _, _, 0, rfl, by omega, hmN⟩
  simp only [vt7, VT.ok, Nd.holds, X.outs, X.ds, X.d, Op1.ev, Op2.ev, List.cons_append, List.nil_append, List.getD_cons_zero, List.getD_cons_succ, D.int_i, D.bool_b, D.lst_l, D.str_s, ite_b, ite_or, F10700, R10700]
  generalize (((decide (100 < (g.N.length : Int)) || decide (300 < (g.E.length : Int))) || decide (30 < (g.C.length : Int))) || decide (50 < (g.nm.size : Int))) = k at hv ⊢
  cases k
  · simp only [Bool.false_eq_true, if_false] at hv ⊢
    refine ⟨fun _ => hpre, ?_⟩
    simp only [lpSmall, Int.toNat_zero, Nat.sub_zero]
    rcases scan_two (p := smallP g.N) g.N.length with ⟨h1, j, _, _, _, h⟩ | ⟨h1, h⟩
    · rw [h1] at hv; simp only [h, ← hv]; rfl
    · rw [h1] at hv; simp only [h, ← hv]; rfl
  · simp only [if_true] at hv ⊢
    rw [hv]
theorem loopM25_0 : LoopMeets Try.prog F (R L25_0.key) L25_0 lb25_0 := by
  refine loop_meets (pre := R) mixed (sgAt_all (P := Try.prog) (pre := R) (Φ := F) (l := sg25) ((fun _ h => nomatch h))) (loops_n 0 lk25_0 fun k hk => by omega) L25_0 (fun ρ => (((ρ.getD 0 default).lst.length : Int) - (ρ.getD 3 default).int).toNat) le25_0 fun ρ _ hq => ?_
  obtain ⟨xs, m, v, j, rfl, hj, hm⟩ : prHs ρ := hq
  rw [maxLen_val] at hm
  by_cases hlt : j < xs.length
  · simp (disch := omega) only [rt25_0, VT.ok, Nd.holds, X.ds, X.d, Op1.ev, Op2.ev, List.getD_cons_zero, List.getD_cons_succ, D.int_i, D.bool_b, D.lst_l, Int.toNat_natCast, implies_true, true_and, ↓reduceIte, dle_t, dlt_t, w64']
    show if (cI (el xs j) 0 == m) = true then _ else _
    cases hb : (cI (el xs j) 0 == m)
    · simp only [Bool.false_eq_true, if_false]
      refine round_next ⟨⟨xs, m, v, j + 1, rfl, by omega, hm⟩, ?_, ?_⟩
      · show ((xs.length : Int) - ((j + 1 : Nat) : Int)).toNat < ((xs.length : Int) - (j : Int)).toNat
        omega
      · show lpHs [.l xs, .i m, v, .i ((j + 1 : Nat) : Int)] = lpHs [.l xs, .i m, v, .i (j : Int)]
        simp only [lpHs, Int.toNat_natCast]
        exact scan_next hlt hb
    · simp only [if_true]
      refine round_exit (by omega) ?_
      show lpHs [.l xs, .i m, v, .i (j : Int)] = _
      simp only [lpHs, Int.toNat_natCast]
      exact scan_hit hlt hb
  · have hj' : j = xs.length := by omega
    subst hj'
    simp (disch := omega) only [rt25_0, VT.ok, X.ds, X.d, Op1.ev, Op2.ev, List.getD_cons_zero, List.getD_cons_succ, D.int_i, D.bool_b, D.lst_l, Bool.false_eq_true, ↓reduceIte, dlt_f]
    refine round_exit (by omega) ?_
    show lpHs [.l xs, .i m, v, .i (xs.length : Int)] = _
    simp only [lpHs, Int.toNat_natCast]
    exact scan_end
theorem m25 : Meets Try.prog 25 S25 (R 25) (F 25) := by
  refine meets_of_vt (pre := R) (Φ := F) mixed (sgAt_all (P := Try.prog) (pre := R) (Φ := F) (l := sg25) ((fun _ h => nomatch h))) Try.func25 b25 n25 (loops_n 1 k25 fun k hk => match k, hk with | 0, _ => loop_this lf25_0 loopM25_0) e25 fun ds hf hq => ?_
  obtain ⟨x, y, rfl, hx, hy⟩ := fits2 hf.flat
  obtain ⟨xs, rfl, hm, _⟩ := wf_sl hx
  obtain ⟨m, rfl, _⟩ := wf_i64 hy
  have hpre : prHs [.l xs, .i m, .b false, .i 0] := ⟨xs, m, _, 0, rfl, by omega, hm⟩
  simp only [vt25, VT.ok, Nd.holds, X.outs, X.ds, X.d, Op2.ev, List.cons_append, List.nil_append, List.getD_cons_zero, List.getD_cons_succ, D.int_i, D.bool_b, F25, F12500, R12500]
  refine ⟨fun _ => hpre, ?_⟩
  simp only [lpHs, hsD, Int.toNat_zero, Nat.sub_zero, cL, cI, List.getD_cons_zero, List.getD_cons_succ, D.lst_l, D.int_i]
  rcases scan_two (p := fun j => ((el xs j).getD 0 default).int == m) xs.length with ⟨h1, j, _, _, _, h⟩ | ⟨h1, h⟩ <;> simp (disch := omega) only [h, h1, takeD_zero, takeD_cons, List.getD_cons_zero, List.getD_cons_succ, D.int_i, Bool.false_eq_true, ↓reduceIte, beq_t, beq_f]
def exN : List (List D) := [[.s ⟨#[120]⟩, .s ⟨#[]⟩, .i 1, .i 1, .i 0, .l []], [.s ⟨#[121]⟩, .s ⟨#[]⟩, .i 1, .i 1, .i 1, .l []]]
def exE : List (List D) := [[.i 0, .i 1, .i (-1), .i (-1), .s ⟨#[]⟩, .i 1, .i 1]]
def exC : List (List D) := [[.s ⟨#[99]⟩, .i (-1)], [.s ⟨#[100]⟩, .i 0]]
def exS : ByteArray := ⟨#[103]⟩
theorem ex26 : fn26 [] = [.s exS, .b false, .l exN, .l exE, .l exC] := by kernel_rfl
theorem ex1 : skD [.s exS, .b false, .l exN, .l exE, .l exC] = [.i 2, .l [[.i 0, .i 1]]] := by kernel_rfl
theorem ex2 : validD [.s ⟨#[]⟩, .b false, .l [], .l [], .l []] = [.i 5] := by kernel_rfl
theorem ex3 : validD [.s exS, .b false, .l exN, .l exE, .l exC] = [.i 0] := by kernel_rfl
theorem ex4 : memD [.s exS, .b false, .l exN, .l exE, .l exC, .i 0] = [.l [[.i 0], [.i 1]]] := by kernel_rfl
theorem ex5 : eqFn sameI1 [.l [[.i 0], [.i 1]], .l [[.i 0], [.i 1]]] = [.b true] := by kernel_rfl
theorem ex6 : memD [.s exS, .b false, .l exN, .l exE, .l exC, .i 1] = [.l [[.i 1]]] := by kernel_rfl
theorem ex7 : eqFn sameI1 [.l [[.i 1]], .l [[.i 1]]] = [.b true] := by kernel_rfl
theorem ex8 : comD [.s exS, .b false, .l exN, .l exE, .l exC, .i 0, .i 1] = [.i 0] := by kernel_rfl
theorem ex9 : depED [.s exS, .b false, .l exN, .l exE, .l exC, .i 1] = [.i 2] := by kernel_rfl
theorem ex10 : findD [.s exS, .b false, .l exN, .l exE, .l exC, .s ⟨#[121]⟩] = [.i 1] := by kernel_rfl
theorem ex11 : sameD [.s exS, .b false, .l exN, .l exE, .l exC, .s exS, .b false, .l exN, .l exE, .l exC] = [.b true] := by kernel_rfl
theorem ex12 : sameD [.s exS, .b false, .l exN, .l exE, .l exC, .s ⟨#[]⟩, .b false, .l [], .l [], .l []] = [.b false] := by kernel_rfl
theorem m8 : Meets Try.prog 8 S8 (R 8) (F 8) := by
  refine meets_of_vt (pre := R) (Φ := F) mixed (sgAt_all (P := Try.prog) (pre := R) (Φ := F) (l := sg8) (List.forall_mem_cons.2 ⟨Meets.at (pre := R) (Φ := F) m26, List.forall_mem_cons.2 ⟨Meets.at (pre := R) (Φ := F) m14, List.forall_mem_cons.2 ⟨Meets.at (pre := R) (Φ := F) m9, List.forall_mem_cons.2 ⟨Meets.at (pre := R) (Φ := F) m19, List.forall_mem_cons.2 ⟨Meets.at (pre := R) (Φ := F) m18, List.forall_mem_cons.2 ⟨Meets.at (pre := R) (Φ := F) m23, List.forall_mem_cons.2 ⟨Meets.at (pre := R) (Φ := F) m21, List.forall_mem_cons.2 ⟨Meets.at (pre := R) (Φ := F) m11, List.forall_mem_cons.2 ⟨Meets.at (pre := R) (Φ := F) m16, (fun _ h => nomatch h)⟩⟩⟩⟩⟩⟩⟩⟩⟩)) Try.func8 b8 n8 (loops_n 0 k8 fun k hk => by omega) e8 fun ds hf hq => ?_
  have e := fits0 hf.flat
  subst e
  have hs : skPre [.s exS, .b false, .l exN, .l exE, .l exC] := by unfold skPre; decide
  simp only [vt8, VT.ok, Nd.holds, X.outs, X.ds, X.d, Op1.ev, Op2.ev, takeD_zero, takeD_cons, List.cons_append, List.nil_append, List.getD_cons_zero, List.getD_cons_succ, D.int_i, D.bool_b, D.lst_l, ite_b, ite_and, implies_true, true_and, F11, R11, F9, R9, F19, R19, F21, R21, F23, R23, F18, R18, F14, R14, F16, R16, F26, R26, F8, ex26, ex1, ex2, ex3, ex4, ex5, ex6, ex7, ex8, ex9, ex10, ex11, ex12, one]
  exact ⟨fun _ => hs, by kernel_rfl⟩
theorem law3 : Meets Try.prog 3 S3 (fun _ => True) (fun _ => [.b true]) := by
  refine meets_of_vt (pre := R) (Φ := F) mixed (sgAt_all (P := Try.prog) (pre := R) (Φ := F) (l := sg3) (List.forall_mem_cons.2 ⟨Meets.at (pre := R) (Φ := F) m7, List.forall_mem_cons.2 ⟨Meets.at (pre := R) (Φ := F) m8, List.forall_mem_cons.2 ⟨Meets.at (pre := R) (Φ := F) m9, List.forall_mem_cons.2 ⟨Meets.at (pre := R) (Φ := F) m10, (fun _ h => nomatch h)⟩⟩⟩⟩)) Try.func3 b3 n3 (loops_n 0 k3 fun k hk => by omega) e3 fun ds hf _ => ?_
  obtain ⟨g, ds', rfl, h5, _⟩ := fitsG hf.flat
  have e0 := fits0 h5
  subst e0
  simp only [vt3, VT.ok, Nd.holds, X.outs, X.ds, X.d, Op1.ev, Op2.ev, takeD_zero, takeD_cons, List.cons_append, List.nil_append, List.getD_cons_zero, List.getD_cons_succ, D.int_i, D.bool_b, ite_b, ite_or, ite_and, implies_true, true_and, F9, R9, F10, R10, F7, R7, F8, R8, smallD, validD, one, gOf_eq]
  cases smallB g <;> simp
theorem law4 : Meets Try.prog 4 S4 (fun _ => True) (fun _ => [.b true]) := by
  refine meets_of_vt (pre := R) (Φ := F) mixed (sgAt_all (P := Try.prog) (pre := R) (Φ := F) (l := sg4) (List.forall_mem_cons.2 ⟨Meets.at (pre := R) (Φ := F) m7, List.forall_mem_cons.2 ⟨Meets.at (pre := R) (Φ := F) m8, List.forall_mem_cons.2 ⟨Meets.at (pre := R) (Φ := F) m11, List.forall_mem_cons.2 ⟨Meets.at (pre := R) (Φ := F) m12, List.forall_mem_cons.2 ⟨Meets.at (pre := R) (Φ := F) m14, List.forall_mem_cons.2 ⟨Meets.at (pre := R) (Φ := F) m15, List.forall_mem_cons.2 ⟨Meets.at (pre := R) (Φ := F) m13, List.forall_mem_cons.2 ⟨Meets.at (pre := R) (Φ := F) m16, List.forall_mem_cons.2 ⟨Meets.at (pre := R) (Φ := F) m17, (fun _ h => nomatch h)⟩⟩⟩⟩⟩⟩⟩⟩⟩)) Try.func4 b4 n4 (loops_n 0 k4 fun k hk => by omega) e4 fun ds hf _ => ?_
  obtain ⟨g, ds', rfl, h5, _⟩ := fitsG hf.flat
  obtain ⟨h, ds'', rfl, h6, _⟩ := fitsG h5
  obtain ⟨x, rfl, hx⟩ := fits1 h6
  obtain ⟨nm, rfl, _⟩ := wf_str hx
  have g1 : ∀ l, gOf (.s g.nm :: .b g.dr :: .l g.N :: .l g.E :: .l g.C :: l) = g := fun _ => rfl
  have g2 : ∀ l, gOf (.s h.nm :: .b h.dr :: .l h.N :: .l h.E :: .l h.C :: l) = h := fun _ => rfl
  simp only [vt4, VT.ok, Nd.holds, X.outs, X.ds, X.d, Op1.ev, Op2.ev, takeD_zero, takeD_cons, List.cons_append, List.nil_append, List.getD_cons_zero, List.getD_cons_succ, D.bool_b, ite_b, ite_or, ite_and, implies_true, true_and, and_true, F11, R11, F12, R12, F13, R13, F14, R14, F15, R15, F16, R16, F17, R17, F7, R7, F8, R8, smallD, one, g1, g2]
  cases h1 : smallB g
  · simp
  · cases h2 : smallB h
    · simp
    · have hE : g.E.length ≤ 1000000 := by
        unfold smallB at h1
        simp only [Bool.and_eq_true, Bool.not_eq_true', Bool.or_eq_false_iff, decide_eq_false_iff_not] at h1
        omega
      have hs : skPre [.s g.nm, .b g.dr, .l g.N, .l g.E, .l g.C] := hE
      have hsk : eqR sameI2 (collN (sk g.E) g.E.length 0) (collN (sk g.E) g.E.length 0) = true := eqR_refl (fun x => by simp [sameI2]) _
      simp only [Bool.not_true, Bool.or_self, Bool.false_eq_true, if_false, findD, skD, saD, sameD, cL, cI, cS, List.getD_cons_zero, List.getD_cons_succ, D.lst_l, D.int_i, D.str_s, D.bool_b, takeD_zero, takeD_cons, List.cons_append, List.nil_append, hsk, g1, List.drop_succ_cons, List.drop_zero, g2, sameG_refl]
      simp [hs]
theorem law5 : Meets Try.prog 5 S5 (fun _ => True) (fun _ => [.b true]) := by
  refine meets_of_vt (pre := R) (Φ := F) mixed (sgAt_all (P := Try.prog) (pre := R) (Φ := F) (l := sg5) (List.forall_mem_cons.2 ⟨Meets.at (pre := R) (Φ := F) m7, List.forall_mem_cons.2 ⟨Meets.at (pre := R) (Φ := F) m8, List.forall_mem_cons.2 ⟨Meets.at (pre := R) (Φ := F) m19, List.forall_mem_cons.2 ⟨Meets.at (pre := R) (Φ := F) m20, List.forall_mem_cons.2 ⟨Meets.at (pre := R) (Φ := F) m18, List.forall_mem_cons.2 ⟨Meets.at (pre := R) (Φ := F) m21, List.forall_mem_cons.2 ⟨Meets.at (pre := R) (Φ := F) m22, List.forall_mem_cons.2 ⟨Meets.at (pre := R) (Φ := F) m23, List.forall_mem_cons.2 ⟨Meets.at (pre := R) (Φ := F) m24, (fun _ h => nomatch h)⟩⟩⟩⟩⟩⟩⟩⟩⟩)) Try.func5 b5 n5 (loops_n 0 k5 fun k hk => by omega) e5 fun ds hf _ => ?_
  obtain ⟨g, ds', rfl, h5, _⟩ := fitsG hf.flat
  obtain ⟨x, y, z, rfl, hx, hy, hz⟩ := fits3 h5
  obtain ⟨c, rfl, _⟩ := wf_i64 hx
  obtain ⟨a, rfl, _⟩ := wf_i64 hy
  obtain ⟨b, rfl, _⟩ := wf_i64 hz
  have g1 : ∀ l, gOf (.s g.nm :: .b g.dr :: .l g.N :: .l g.E :: .l g.C :: l) = g := fun _ => rfl
  have hm : ∀ xs, eqR sameI1 xs xs = true := fun xs => eqR_refl (fun x => by simp [sameI1]) _
  simp only [vt5, VT.ok, Nd.holds, X.outs, X.ds, X.d, Op1.ev, Op2.ev, takeD_zero, takeD_cons, List.cons_append, List.nil_append, List.getD_cons_zero, List.getD_cons_succ, D.int_i, D.bool_b, D.lst_l, ite_b, ite_and, if_true, implies_true, true_and, and_true, F19, R19, F20, R20, F21, R21, F22, R22, F23, R23, F24, R24, F18, R18, F7, R7, F8, R8, smallD, one, g1, memD, depED, comD, eqFn, cL, cI, hm]
  cases h1 : smallB g <;> simp

/-! ### nested clusters -/
theorem mems_iff {N C : List (List D)} {c : Int} {v : Int} : anyN (fun j => cI (el (mems N C c) j) 0 == v) (mems N C c).length = true ↔ ∃ n : Nat, v = n ∧ n < N.length ∧ inN N C c n = true := by
  have hmem : ∀ x, x ∈ mems N C c ↔ ∃ n : Nat, n < N.length ∧ inN N C c n = true ∧ x = [.i (n : Int)] := by
    intro x
    unfold mems collN
    rw [List.drop_zero, List.mem_flatMap]
    constructor
    · rintro ⟨n, hn, hx⟩
      unfold inR at hx
      split at hx
      · rename_i h
        exact ⟨n, by simpa using hn, h, by simpa using hx⟩
      · simp at hx
    · rintro ⟨n, hn, h, rfl⟩
      exact ⟨n, by simpa using hn, by rw [inR, if_pos h]; simp⟩
  rw [anyN_iff]
  constructor
  · rintro ⟨j, hj, h⟩
    obtain ⟨n, hn, hin, e⟩ := (hmem _).1 (getD_mem [] hj)
    refine ⟨n, ?_, hn, hin⟩
    have e : el (mems N C c) j = [.i (n : Int)] := e
    rw [cI, e] at h
    exact (by simpa using h : (n : Int) = v).symm
  · rintro ⟨n, rfl, hn, hin⟩
    have := (hmem [.i (n : Int)]).2 ⟨n, hn, hin, rfl⟩
    obtain ⟨j, hj, e⟩ := List.mem_iff_getElem.1 this
    refine ⟨j, hj, ?_⟩
    have e : el (mems N C c) j = [.i (n : Int)] := by simp [el, List.getD, hj, e]
    rw [cI, e]
    simp
theorem mems_el {N C : List (List D)} {c : Int} {i : Nat} (h : i < (mems N C c).length) : ∃ n : Nat, el (mems N C c) i = [.i (n : Int)] ∧ n < N.length ∧ inN N C c n = true := by
  have hm : el (mems N C c) i ∈ mems N C c := getD_mem [] h
  generalize el (mems N C c) i = x at *
  unfold mems collN at hm
  rw [List.drop_zero, List.mem_flatMap] at hm
  obtain ⟨n, hn, hx⟩ := hm
  unfold inR at hx
  split at hx
  · rename_i h
    exact ⟨n, by simpa using hx, by simpa using hn, h⟩
  · simp at hx
theorem subR_of {N C : List (List D)} {c d : Int} (h : ∀ n, n < N.length → inN N C c n = true → inN N C d n = true) : subR (mems N C c) (mems N C d) := by
  intro i hi
  obtain ⟨n, e, hn, hin⟩ := mems_el hi
  rw [show cI (el (mems N C c) i) 0 = n by rw [cI, e]; rfl]
  exact mems_iff.2 ⟨n, rfl, hn, h n hn hin⟩
theorem mems_len (N C : List (List D)) (c : Int) : (mems N C c).length ≤ N.length := by
  have := coll_len (f := inR N C c) (n := N.length) (i := 0) (m := 1) fun i => by unfold inR; split <;> simp
  unfold mems; omega
theorem loopM6_1 : LoopMeets Try.prog F (R L6_1.key) L6_1 lb6_1 := by
  refine loop_meets (pre := R) mixed (sgAt_all (P := Try.prog) (pre := R) (Φ := F) (l := sg6) (List.forall_mem_cons.2 ⟨Meets.at (pre := R) (Φ := F) m7, List.forall_mem_cons.2 ⟨Meets.at (pre := R) (Φ := F) m10, List.forall_mem_cons.2 ⟨Meets.at (pre := R) (Φ := F) m8, List.forall_mem_cons.2 ⟨Meets.at (pre := R) (Φ := F) m23, List.forall_mem_cons.2 ⟨Meets.at (pre := R) (Φ := F) m19, List.forall_mem_cons.2 ⟨Meets.at (pre := R) (Φ := F) m25, (fun _ h => nomatch h)⟩⟩⟩⟩⟩⟩)) (loops_n 0 lk6_1 fun k hk => by omega) L6_1 (fun ρ => (((ρ.getD 1 default).lst.length : Int) - (ρ.getD 3 default).int).toNat) le6_1 fun ρ _ hq => ?_
  obtain ⟨v, l, m, j, rfl, hj, hm, hs⟩ : prSub ρ := hq
  rw [maxLen_val] at hm
  by_cases hlt : j < l.length
  · have h := hs j hlt
    simp (disch := omega) only [rt6_1, VT.ok, Nd.holds, X.outs, X.ds, X.d, Op1.ev, Op2.ev, takeD_zero, takeD_cons, List.cons_append, List.nil_append, List.getD_cons_zero, List.getD_cons_succ, D.int_i, D.bool_b, D.lst_l, Int.toNat_natCast, implies_true, true_and, F25, R25, ↓reduceIte, dle_t, dlt_t, w64', hsD, cL]
    rw [if_neg (by
      show ¬ (!anyN (fun k => cI (el m k) 0 == cI (el l j) 0) m.length) = true
      rw [h]; decide)]
    refine round_next ⟨⟨v, l, m, j + 1, rfl, by omega, hm, hs⟩, ?_, rfl⟩
    show ((l.length : Int) - ((j + 1 : Nat) : Int)).toNat < ((l.length : Int) - (j : Int)).toNat
    omega
  · have hj' : j = l.length := by omega
    subst hj'
    simp (disch := omega) only [rt6_1, VT.ok, X.ds, X.d, Op1.ev, Op2.ev, List.getD_cons_zero, List.getD_cons_succ, D.int_i, D.bool_b, D.lst_l, Bool.false_eq_true, ↓reduceIte, dlt_f]
    exact round_exit (by omega) rfl
theorem loopM6_2 : LoopMeets Try.prog F (R L6_2.key) L6_2 lb6_2 := by
  refine loop_meets (pre := R) mixed (sgAt_all (P := Try.prog) (pre := R) (Φ := F) (l := sg6) (List.forall_mem_cons.2 ⟨Meets.at (pre := R) (Φ := F) m7, List.forall_mem_cons.2 ⟨Meets.at (pre := R) (Φ := F) m10, List.forall_mem_cons.2 ⟨Meets.at (pre := R) (Φ := F) m8, List.forall_mem_cons.2 ⟨Meets.at (pre := R) (Φ := F) m23, List.forall_mem_cons.2 ⟨Meets.at (pre := R) (Φ := F) m19, List.forall_mem_cons.2 ⟨Meets.at (pre := R) (Φ := F) m25, (fun _ h => nomatch h)⟩⟩⟩⟩⟩⟩)) (loops_n 0 lk6_2 fun k hk => by omega) L6_2 (fun ρ => (((ρ.getD 1 default).lst.length : Int) - (ρ.getD 3 default).int).toNat) le6_2 fun ρ _ hq => ?_
  obtain ⟨v, l, m, j, rfl, hj, hm, hs⟩ : prSub ρ := hq
  rw [maxLen_val] at hm
  by_cases hlt : j < l.length
  · have h := hs j hlt
    simp (disch := omega) only [rt6_2, VT.ok, Nd.holds, X.outs, X.ds, X.d, Op1.ev, Op2.ev, takeD_zero, takeD_cons, List.cons_append, List.nil_append, List.getD_cons_zero, List.getD_cons_succ, D.int_i, D.bool_b, D.lst_l, Int.toNat_natCast, implies_true, true_and, F25, R25, ↓reduceIte, dle_t, dlt_t, w64', hsD, cL]
    rw [if_neg (by
      show ¬ (!anyN (fun k => cI (el m k) 0 == cI (el l j) 0) m.length) = true
      rw [h]; decide)]
    refine round_next ⟨⟨v, l, m, j + 1, rfl, by omega, hm, hs⟩, ?_, rfl⟩
    show ((l.length : Int) - ((j + 1 : Nat) : Int)).toNat < ((l.length : Int) - (j : Int)).toNat
    omega
  · have hj' : j = l.length := by omega
    subst hj'
    simp (disch := omega) only [rt6_2, VT.ok, X.ds, X.d, Op1.ev, Op2.ev, List.getD_cons_zero, List.getD_cons_succ, D.int_i, D.bool_b, D.lst_l, Bool.false_eq_true, ↓reduceIte, dlt_f]
    exact round_exit (by omega) rfl
theorem comE_eq {g : Gd} {a b : Nat} (hv : validE g = 0) (ha : a < g.N.length) (hb : b < g.N.length) : comE g a b = firstIn (around g.C (cI (el g.N b) 4)) (around g.C (cI (el g.N a) 4)) := by
  unfold comE
  rw [if_pos ⟨hv, by omega, by omega⟩, Int.toNat_natCast, Int.toNat_natCast]
theorem comE_bd {g : Gd} {a b : Nat} (hv : validE g = 0) (ha : a < g.N.length) (hb : b < g.N.length) : -1 ≤ comE g a b ∧ comE g a b < g.C.length := by
  have hk := valid_okV hv
  have ba := hk.2.2.2 a ha
  rw [comE_eq hv ha hb]
  rcases firstIn_spec hk.2.2.1 (k := cI (el g.N a) 4) (k' := cI (el g.N b) 4) ba.2 with ⟨h1, _⟩ | ⟨h1, _, _⟩
  · rw [h1]; omega
  · have := ar_mem hk.2.2.1 _ _ (by omega : cI (el g.N a) 4 < ((cI (el g.N a) 4 + 1).toNat : Nat)) ba.2 _ h1
    omega
theorem memR_eq {g : Gd} {c : Int} (hv : validE g = 0) (h0 : -1 ≤ c) (h1 : c < g.C.length) : memR g c = mems g.N g.C c := by rw [memR, if_pos ⟨hv, h0, h1⟩]
theorem com_has {g : Gd} {a b : Nat} (hv : validE g = 0) (ha : a < g.N.length) (hb : b < g.N.length) : inN g.N g.C (comE g a b) a = true ∧ inN g.N g.C (comE g a b) b = true := by
  have hk := valid_okV hv
  have ba := hk.2.2.2 a ha
  rw [comE_eq hv ha hb]
  rcases firstIn_spec hk.2.2.1 (k := cI (el g.N a) 4) (k' := cI (el g.N b) 4) ba.2 with ⟨h1, _⟩ | ⟨h1, h2, _⟩
  · rw [h1]; exact ⟨rfl, rfl⟩
  · have := ar_mem hk.2.2.1 _ _ (by omega : cI (el g.N a) 4 < ((cI (el g.N a) 4 + 1).toNat : Nat)) ba.2 _ h1
    exact ⟨(inN_iff this.1).2 h1, (inN_iff this.1).2 h2⟩
/-- members of a cluster are members of its parent -/
theorem in_parent {g : Gd} (hv : validE g = 0) {c : Nat} (_hc : c < g.C.length) {n : Nat} (hn : n < g.N.length) (h : inN g.N g.C c n = true) : inN g.N g.C (cI (el g.C c) 1) n = true := by
  have hk := valid_okV hv
  have bn := hk.2.2.2 n hn
  have h := (inN_iff (by omega)).1 h
  by_cases h0 : 0 ≤ cI (el g.C c) 1
  · exact (inN_iff h0).2 (by simpa using ar_up hk.2.2.1 bn.2 h (by simpa using h0))
  · unfold inN; rw [dlt_t (by omega)]; rfl
/-- the common cluster lies in every cluster that has both -/
theorem in_common {g : Gd} (hv : validE g = 0) {a b : Nat} (ha : a < g.N.length) (hb : b < g.N.length) {c : Nat} (_hc : c < g.C.length) (h1 : inN g.N g.C c a = true) (h2 : inN g.N g.C c b = true) {n : Nat} (hn : n < g.N.length) (h : inN g.N g.C (comE g a b) n = true) : inN g.N g.C c n = true := by
  have hk := valid_okV hv
  have ba := hk.2.2.2 a ha
  have bn := hk.2.2.2 n hn
  have h1 := (inN_iff (by omega)).1 h1
  have h2 := (inN_iff (by omega)).1 h2
  rw [comE_eq hv ha hb] at h
  rcases firstIn_spec hk.2.2.1 (k := cI (el g.N a) 4) (k' := cI (el g.N b) 4) ba.2 with ⟨_, h4⟩ | ⟨h3, h4, h5⟩
  · exact absurd h2 (h4 _ h1)
  · have hm := ar_mem hk.2.2.1 _ _ (by omega : cI (el g.N a) 4 < ((cI (el g.N a) 4 + 1).toNat : Nat)) ba.2 _ h3
    have h := (inN_iff hm.1).1 h
    have := ar_below hk.2.2.1 ba.2 h3 h1 (h5 _ h1 h2)
    exact (inN_iff (by omega)).2 (ar_trans hk.2.2.1 bn.2 h this)
theorem has_mems {g : Gd} {c : Int} {n : Nat} (hn : n < g.N.length) : anyN (fun j => ((el (mems g.N g.C c) j).getD 0 default).int == (n : Int)) (mems g.N g.C c).length = inN g.N g.C c n := by
  rw [Bool.eq_iff_iff]
  refine mems_iff.trans ⟨?_, fun h => ⟨n, rfl, hn, h⟩⟩
  rintro ⟨k, e, _, h⟩
  rw [show n = k by omega]; exact h
theorem loopM6_0 : LoopMeets Try.prog F (R L6_0.key) L6_0 lb6_0 := by
  refine loop_meets (pre := R) mixed (sgAt_all (P := Try.prog) (pre := R) (Φ := F) (l := sg6) (List.forall_mem_cons.2 ⟨Meets.at (pre := R) (Φ := F) m7, List.forall_mem_cons.2 ⟨Meets.at (pre := R) (Φ := F) m10, List.forall_mem_cons.2 ⟨Meets.at (pre := R) (Φ := F) m8, List.forall_mem_cons.2 ⟨Meets.at (pre := R) (Φ := F) m23, List.forall_mem_cons.2 ⟨Meets.at (pre := R) (Φ := F) m19, List.forall_mem_cons.2 ⟨Meets.at (pre := R) (Φ := F) m25, (fun _ h => nomatch h)⟩⟩⟩⟩⟩⟩)) (loops_n 2 lk6_0 fun k hk => match k, hk with | 0, _ => by rw [li6_0_0]; exact loop_this lf6_1 loopM6_1 | 1, _ => by rw [li6_0_1]; exact loop_this lf6_2 loopM6_2) L6_0 (fun ρ => (((ρ.getD 9 default).lst.length : Int) - (ρ.getD 4 default).int).toNat) le6_0 fun ρ _ hq => ?_
  obtain ⟨a, b, v, g, j, rfl, hj, hv, ha, hb⟩ : pr6 ρ := hq
  have hk := valid_okV hv
  have h64 := hk.1
  have h16 := hk.2.1
  by_cases hlt : j < g.C.length
  · have hbd := comE_bd hv ha hb
    have hp := hk.2.2.1 j hlt
    have e1 := memR_eq hv (c := (j : Int)) (by omega) (by omega)
    have e2 := memR_eq hv (c := cI (el g.C j) 1) (by omega) (by omega)
    have e3 := memR_eq hv hbd.1 hbd.2
    have l1 := mems_len g.N g.C j
    have l3 := mems_len g.N g.C (comE g a b)
    have p1 : prSub [v, .l (mems g.N g.C j), .l (mems g.N g.C (cI (el g.C j) 1)), .i 0] := ⟨_, _, _, 0, rfl, by omega, by rw [maxLen_val]; omega, subR_of fun n hn h => in_parent hv hlt hn h⟩
    have hN : RoundOk F (R L6_0.key) (fun ρ => (((ρ.getD 9 default).lst.length : Int) - (ρ.getD 4 default).int).toNat) L6_0 [.i (a : Int), .i (b : Int), v, .l (mems g.N g.C (comE g a b)), .i (j : Int), .s g.nm, .b g.dr, .l g.N, .l g.E, .l g.C] [.i (-1), v, .i ((j + 1 : Nat) : Int)] := by
      refine round_next ⟨⟨a, b, v, g, j + 1, by rw [e3]; rfl, by omega, hv, ha, hb⟩, ?_, rfl⟩
      show ((g.C.length : Int) - ((j + 1 : Nat) : Int)).toNat < ((g.C.length : Int) - (j : Int)).toNat
      omega
    rw [e3]
    have e2' : memR g ((g.C.getD j []).getD 1 default).int = mems g.N g.C (cI (el g.C j) 1) := e2
    simp (disch := omega) only [rt6_0, VT.ok, Nd.holds, X.outs, X.ds, X.d, Op1.ev, Op2.ev, takeD_zero, takeD_cons, List.cons_append, List.nil_append, List.getD_cons_zero, List.getD_cons_succ, D.int_i, D.bool_b, D.lst_l, ite_b, ite_or, Int.toNat_natCast, Bool.false_eq_true, implies_true, true_and, F19, R19, F25, R25, F10600, R10600, F10601, R10601, ↓reduceIte, dle_t, dlt_t, beq_f, w64', memD, gOf_eq, cI, e1, e2', lpSub, hsD, cL, has_mems ha, has_mems hb]
    refine ⟨fun _ => p1, ?_⟩
    cases h1 : inN g.N g.C j a
    · simp only [Bool.not_false, Bool.true_or, if_true]
      exact hN
    · cases h2 : inN g.N g.C j b
      · simp only [Bool.not_false, Bool.or_true, if_true]
        exact hN
      · simp only [Bool.not_true, Bool.or_self, Bool.false_eq_true, if_false]
        have p2 : prSub [v, .l (mems g.N g.C (comE g a b)), .l (mems g.N g.C j), .i 0] := ⟨_, _, _, 0, rfl, by omega, by rw [maxLen_val]; omega, subR_of fun n hn h => in_common hv ha hb hlt h1 h2 hn h⟩
        exact ⟨fun _ => p2, hN⟩
  · have hj' : j = g.C.length := by omega
    subst hj'
    simp (disch := omega) only [rt6_0, VT.ok, X.ds, X.d, Op1.ev, Op2.ev, List.getD_cons_zero, List.getD_cons_succ, D.int_i, D.bool_b, D.lst_l, Bool.false_eq_true, ↓reduceIte, dlt_f]
    exact round_exit (by omega) rfl
theorem law6 : Meets Try.prog 6 S6 (fun _ => True) (fun _ => [.b true]) := by
  refine meets_of_vt (pre := R) (Φ := F) mixed (sgAt_all (P := Try.prog) (pre := R) (Φ := F) (l := sg6) (List.forall_mem_cons.2 ⟨Meets.at (pre := R) (Φ := F) m7, List.forall_mem_cons.2 ⟨Meets.at (pre := R) (Φ := F) m10, List.forall_mem_cons.2 ⟨Meets.at (pre := R) (Φ := F) m8, List.forall_mem_cons.2 ⟨Meets.at (pre := R) (Φ := F) m23, List.forall_mem_cons.2 ⟨Meets.at (pre := R) (Φ := F) m19, List.forall_mem_cons.2 ⟨Meets.at (pre := R) (Φ := F) m25, (fun _ h => nomatch h)⟩⟩⟩⟩⟩⟩)) Try.func6 b6 n6 (loops_n 3 k6 fun k hk => match k, hk with | 0, _ => loop_this lf6_0 loopM6_0 | 1, _ => loop_this lf6_1 loopM6_1 | 2, _ => loop_this lf6_2 loopM6_2) e6 fun ds hf _ => ?_
  obtain ⟨g, ds', rfl, h5, _⟩ := fitsG hf.flat
  obtain ⟨x, y, rfl, hx, hy⟩ := fits2 h5
  obtain ⟨a, rfl, _⟩ := wf_i64 hx
  obtain ⟨b, rfl, _⟩ := wf_i64 hy
  have g1 : ∀ l, gOf (.s g.nm :: .b g.dr :: .l g.N :: .l g.E :: .l g.C :: l) = g := fun _ => rfl
  by_cases hc : smallB g = true ∧ (g.N.length : Int) ≤ 20 ∧ validE g = 0 ∧ (0 ≤ a ∧ a < g.N.length) ∧ 0 ≤ b ∧ b < g.N.length
  · obtain ⟨h1, h2, h3, h4, h5⟩ := hc
    obtain ⟨a', rfl⟩ : ∃ n : Nat, a = n := ⟨a.toNat, by omega⟩
    obtain ⟨b', rfl⟩ : ∃ n : Nat, b = n := ⟨b.toNat, by omega⟩
    have ha : a' < g.N.length := by omega
    have hb : b' < g.N.length := by omega
    have hk := valid_okV h3
    have ba := hk.2.2.2 a' ha
    have bb := hk.2.2.2 b' hb
    have hbd := comE_bd h3 ha hb
    have e3 := memR_eq h3 hbd.1 hbd.2
    have hh := com_has h3 ha hb
    have hcm : comE g b' a' = comE g a' b' := by rw [comE_eq h3 ha hb, comE_eq h3 hb ha]; exact firstIn_comm hk.2.2.1 bb.2 ba.2
    have hcs : comE g a' a' = cI (el g.N a') 4 := by rw [comE_eq h3 ha ha]; exact firstIn_self hk.2.2.1 ba.1 ba.2
    have hpre : pr6 [.i (a' : Int), .i (b' : Int), .b false, .l (mems g.N g.C (comE g a' b')), .i 0, .s g.nm, .b g.dr, .l g.N, .l g.E, .l g.C] := ⟨a', b', _, g, 0, by rw [e3]; rfl, by omega, h3, ha, hb⟩
    have hcs' : comE g a' a' = ((g.N.getD a' []).getD 4 default).int := hcs
    simp (disch := omega) only [vt6, VT.ok, Nd.holds, X.outs, X.ds, X.d, Op1.ev, Op2.ev, takeD_zero, takeD_cons, List.cons_append, List.nil_append, List.getD_cons_zero, List.getD_cons_succ, D.int_i, D.bool_b, D.lst_l, Int.toNat_natCast, Bool.false_eq_true, implies_true, true_and, and_true, F10, R10, F19, R19, F23, R23, F7, R7, F25, R25, F8, R8, F10602, R10602, ↓reduceIte, dle_t, dle_f, dlt_t, dlt_f, beq_t, beq_f, smallD, validD, g1, h1, h3, memD, comD, cI, e3, hsD, cL, has_mems ha, has_mems hb, hh.1, hh.2, hcm, hcs', Bool.not_true, Bool.not_false, one, Int.toNat_natCast, lp6]
    exact fun _ => hpre
  · have hcond : ((((((!smallB g || decide (20 < (g.N.length : Int))) || !(validE g == 0)) || decide (a < 0)) || decide ((g.N.length : Int) ≤ a)) || decide (b < 0)) || decide ((g.N.length : Int) ≤ b)) = true := by
      cases h1 : smallB g
      · rfl
      · rw [h1] at hc
        simp only [Bool.not_true, Bool.false_or, Bool.or_eq_true, Bool.not_eq_true', beq_eq_false_iff_ne, decide_eq_true_eq]
        have hc : ¬ ((g.N.length : Int) ≤ 20 ∧ validE g = 0 ∧ (0 ≤ a ∧ a < g.N.length) ∧ 0 ≤ b ∧ b < g.N.length) := fun h => hc ⟨rfl, h⟩
        omega
    simp only [vt6, VT.ok, Nd.holds, X.outs, X.ds, X.d, Op1.ev, Op2.ev, takeD_zero, takeD_cons, List.cons_append, List.nil_append, List.getD_cons_zero, List.getD_cons_succ, D.int_i, D.bool_b, D.lst_l, ite_b, ite_or, if_true, implies_true, true_and, and_true, takeD1_0, F10, R10, F19, R19, F23, R23, F7, R7, F25, R25, F8, R8, F10602, R10602, smallD, validD, g1, hcond, one]
end Go.Proofs.Ytjdhicmkkmfcgaa.rv
