/-
  layoutlaw03.BoxHits and BoxStrikes over data.
-/
import Derived.Test.YteajmcpjcbjolaaRvBox5
namespace Go.Proofs.Yteajmcpjcbjolaa.rv
open Go.RV

theorem rev_low {a b lo hi : Int} (h : b ≠ a) : lowS b a lo hi = denS a b - highS a b lo hi := by unfold lowS highS denS; split <;> split <;> omega
theorem rev_high {a b lo hi : Int} (h : b ≠ a) : highS b a lo hi = denS a b - lowS a b lo hi := by unfold lowS highS denS; split <;> split <;> omega
theorem rev_den (a b : Int) : denS b a = denS a b := by unfold denS; split <;> split <;> omega

theorem some_rev (a b lo hi : Int) : someS b a lo hi = someS a b lo hi := by
  by_cases h : b = a
  · subst h; rfl
  · have h' : ¬ a = b := fun e => h e.symm
    rw [Bool.eq_iff_iff]
    simp only [someS, h, h', if_false, rev_low h, rev_high h, rev_den, Bool.and_eq_true, decide_eq_true_eq]
    omega

theorem cross_rev (a b lo hi a' b' lo' hi' : Int) : crossS b a lo hi b' a' lo' hi' = crossS a b lo hi a' b' lo' hi' := by
  by_cases h : b = a
  · subst h; simp [crossS]
  · by_cases h' : b' = a'
    · subst h'; simp [crossS]
    · have h1 : ¬ a = b := fun e => h e.symm
      have h2 : ¬ a' = b' := fun e => h' e.symm
      simp only [crossS, h, h', h1, h2, decide_false, Bool.false_or, rev_low h, rev_high h, rev_low h', rev_high h', rev_den, Int.sub_mul]
      rw [Bool.eq_iff_iff]
      simp only [Bool.and_eq_true, decide_eq_true_eq]
      have hc := Int.mul_comm (denS a b) (denS a' b')
      omega

theorem hits_rev (x0 y0 x1 y1 ax ay bx byy : Int) : hitsB x0 y0 x1 y1 bx byy ax ay = hitsB x0 y0 x1 y1 ax ay bx byy := by
  simp only [hitsB, some_rev ax bx, some_rev ay byy, cross_rev ax bx _ _ ay byy]
  cases bv x0 y0 x1 y1 <;> cases pv ax ay <;> cases pv bx byy <;> rfl

def F5 : FuncId → List D → List D := tabOf [(19, g19), (20, fn20), (15, fn15)]

theorem m5 : Meets Try.prog 5 S5 (fun _ => True) (fun ρ => vt5.val F5 ρ) := meets_easy (sgl := sg5) (Φ := F5) mixed (by
  intro e he
  simp only [sg5, List.mem_cons, List.not_mem_nil, or_false] at he
  rcases he with rfl | rfl | rfl
  all_goals first | exact m19 | exact m20 | exact m15) Try.func5 b5 n5 k5 e5 (by kernel_rfl)

theorem law5 : Meets Try.prog 5 S5 (fun _ => True) (fun _ => [.b true]) := m5.to fun ds hf _ => by
  refine ⟨trivial, ?_⟩
  match ds, hf.flat with
  | [d0, d1, d2, d3, d4, d5, d6, d7], ⟨h0, h1, h2, h3, h4, h5, h6, h7, _⟩ =>
    obtain ⟨x0, rfl, _⟩ := wf_i64 h0
    obtain ⟨y0, rfl, _⟩ := wf_i64 h1
    obtain ⟨x1, rfl, _⟩ := wf_i64 h2
    obtain ⟨y1, rfl, _⟩ := wf_i64 h3
    obtain ⟨ax, rfl, _⟩ := wf_i64 h4
    obtain ⟨ay, rfl, _⟩ := wf_i64 h5
    obtain ⟨bx, rfl, _⟩ := wf_i64 h6
    obtain ⟨byy, rfl, _⟩ := wf_i64 h7
    simp only [vt5, VT.val, X.ds, X.d, Op2.ev, List.getD_cons_zero, List.getD_cons_succ, D.bool_b, show F5 19 = g19 from rfl, show F5 20 = fn20 from rfl, show F5 15 = fn15 from rfl, g19, fn20_eq, hits_rev x0 y0 x1 y1 ax ay bx byy, beq_self_eq_true, if_true, fn15_eq]

theorem strikes {x0 y0 x1 y1 ax ay bx byy : Int} (hb : bv x0 y0 x1 y1 = true) (hp : pv ax ay = true) (hq : pv bx byy = true) (h1 : x0 < ax) (h2 : ax < x1) (h3 : y0 < ay) (h4 : ay < y1) : hitsB x0 y0 x1 y1 ax ay bx byy = true := by
  have sm : ∀ {a b lo hi : Int}, lo < a → a < hi → someS a b lo hi = true ∧ (b ≠ a → lowS a b lo hi < 0 ∧ 0 < highS a b lo hi ∧ 0 < denS a b) := by
    intro a b lo hi hl hh
    by_cases h : b = a
    · simp only [someS, h, if_true, decide_eq_true hl, decide_eq_true hh, Bool.and_self, ne_eq, not_true_eq_false, false_implies, and_self]
    · have : lowS a b lo hi < 0 ∧ 0 < highS a b lo hi ∧ 0 < denS a b := by unfold lowS highS denS; split <;> omega
      refine ⟨?_, fun _ => this⟩
      simp only [someS, h, if_false, Bool.and_eq_true, decide_eq_true_eq]
      omega
  obtain ⟨s1, t1⟩ := sm (b := bx) h1 h2
  obtain ⟨s2, t2⟩ := sm (b := byy) h3 h4
  have hc : crossS ax bx x0 x1 ay byy y0 y1 = true := by
    by_cases hx : bx = ax
    · simp [crossS, hx]
    · by_cases hy : byy = ay
      · simp [crossS, hy]
      · obtain ⟨u1, u2, u3⟩ := t1 hx
        obtain ⟨v1, v2, v3⟩ := t2 hy
        have w1 := Int.mul_neg_of_neg_of_pos u1 v3
        have w2 := Int.mul_pos v2 u3
        have w3 := Int.mul_neg_of_neg_of_pos v1 u3
        have w4 := Int.mul_pos u2 v3
        simp only [crossS, hx, hy, decide_false, Bool.false_or, Bool.and_eq_true, decide_eq_true_eq]
        omega
  simp only [hitsB, hb, hp, hq, s1, s2, hc, Bool.and_self]

theorem not_aside {a b lo hi : Int} (h : someS a b lo hi = true) : ¬ (max a b ≤ lo) ∧ ¬ (hi ≤ min a b) := by
  by_cases e : b = a
  · simp only [someS, e, if_true, Bool.and_eq_true, decide_eq_true_eq] at h
    omega
  · simp only [someS, e, if_false, Bool.and_eq_true, decide_eq_true_eq] at h
    unfold lowS highS denS at h
    by_cases hba : b < a
    · simp only [hba, if_true] at h; omega
    · simp only [hba, if_false] at h; omega

theorem fn6_eq (x0 y0 x1 y1 ax ay bx byy : Int) : fn6 [.i x0, .i y0, .i x1, .i y1, .i ax, .i ay, .i bx, .i byy] = [.b true] := by
  simp only [fn6, vt6, VT.val, X.ds, X.d, Op1.ev, Op2.ev, List.getD_cons_zero, List.getD_cons_succ, D.int_i, D.bool_b, show T6 10 = fn10 from rfl, show T6 21 = fn21 from rfl, show T6 20 = fn20 from rfl, show T6 15 = fn15 from rfl, fn10_eq, fn21_eq, fn20_eq, fn15_eq, imax, imin]
  cases hb : bv x0 y0 x1 y1 with
  | false => simp only [hitsB, hb, Bool.false_and]; rfl
  | true =>
    cases hp : pv ax ay with
    | false => simp only [hitsB, hb, hp, Bool.and_false, Bool.false_and]; rfl
    | true =>
      cases hq : pv bx byy with
      | false => simp only [hitsB, hb, hp, hq, Bool.and_false, Bool.false_and]; rfl
      | true =>
        simp only [Bool.not_true, Bool.false_eq_true, if_false, ite_and, ite_or, D.bool_b]
        cases hh : hitsB x0 y0 x1 y1 ax ay bx byy with
        | true =>
          have hs := hh
          simp only [hitsB, Bool.and_eq_true] at hs
          have a1 := not_aside hs.1.1.2
          have a2 := not_aside hs.1.2
          simp only [decide_eq_false a1.1, decide_eq_false a1.2, decide_eq_false a2.1, decide_eq_false a2.2, Bool.or_self, Bool.not_true, Bool.and_false, Bool.not_false, Bool.false_eq_true, if_false, Bool.and_self]
        | false =>
          have hn : (decide (x0 < ax) && decide (ax < x1) && decide (y0 < ay) && decide (ay < y1)) = false := by
            rw [Bool.eq_false_iff]
            intro h
            simp only [Bool.and_eq_true, decide_eq_true_eq] at h
            have := strikes hb hp hq h.1.1.1 h.1.1.2 h.1.2 h.2
            rw [hh] at this
            cases this
          simp only [hn, Bool.false_and, Bool.false_eq_true, if_false, Bool.not_false, Bool.and_self]

theorem law6 : Meets Try.prog 6 S6 (fun _ => True) (fun _ => [.b true]) := m6.to fun ds hf _ => by
  refine ⟨trivial, ?_⟩
  match ds, hf.flat with
  | [d0, d1, d2, d3, d4, d5, d6, d7], ⟨h0, h1, h2, h3, h4, h5, h6, h7, _⟩ =>
    obtain ⟨x0, rfl, _⟩ := wf_i64 h0
    obtain ⟨y0, rfl, _⟩ := wf_i64 h1
    obtain ⟨x1, rfl, _⟩ := wf_i64 h2
    obtain ⟨y1, rfl, _⟩ := wf_i64 h3
    obtain ⟨ax, rfl, _⟩ := wf_i64 h4
    obtain ⟨ay, rfl, _⟩ := wf_i64 h5
    obtain ⟨bx, rfl, _⟩ := wf_i64 h6
    obtain ⟨byy, rfl, _⟩ := wf_i64 h7
    exact fn6_eq ..
end Go.Proofs.Yteajmcpjcbjolaa.rv
