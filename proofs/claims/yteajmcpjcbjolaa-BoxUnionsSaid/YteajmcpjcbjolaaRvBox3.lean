/-
  layoutlaw03.BoxOverlaps over data: two loops over the points with half coordinates.
-/
import Derived.Test.YteajmcpjcbjolaaRvBox2
namespace Go.Proofs.Yteajmcpjcbjolaa.rv
open Go.RV

def in2 (a0 a1 a2 a3 x y : Int) : Bool := decide (2 * a0 < x) && decide (x < 2 * a2) && decide (2 * a1 < y) && decide (y < 2 * a3)
def near12 (a0 a1 a2 a3 : Int) : Prop := (-12 ≤ a0 ∧ a0 ≤ 12) ∧ (-12 ≤ a1 ∧ a1 ≤ 12) ∧ (-12 ≤ a2 ∧ a2 ≤ 12) ∧ (-12 ≤ a3 ∧ a3 ≤ 12)

theorem fn17_eq (a0 a1 a2 a3 x y : Int) (h : near12 a0 a1 a2 a3) : fn17 [.i a0, .i a1, .i a2, .i a3, .i x, .i y] = [.b (in2 a0 a1 a2 a3 x y)] := by
  obtain ⟨h0, h1, h2, h3⟩ := h
  have e0 : IntKind.i64.wrap (2 * a0) = 2 * a0 := by rw [wrap_i64]; omega
  have e1 : IntKind.i64.wrap (2 * a1) = 2 * a1 := by rw [wrap_i64]; omega
  have e2 : IntKind.i64.wrap (2 * a2) = 2 * a2 := by rw [wrap_i64]; omega
  have e3 : IntKind.i64.wrap (2 * a3) = 2 * a3 := by rw [wrap_i64]; omega
  simp only [fn17, vt17, VT.val, X.ds, X.d, Op2.ev, List.getD_cons_zero, List.getD_cons_succ, D.int_i, D.bool_b, e0, e1, e2, e3, ite_and, in2]

open Classical in
noncomputable def innerB (s : Bool) (x y a0 a1 a2 a3 b0 b1 b2 b3 : Int) : Bool := s || decide (∃ y', y ≤ y' ∧ y' ≤ 24 ∧ in2 a0 a1 a2 a3 x y' = true ∧ in2 b0 b1 b2 b3 x y' = true)
open Classical in
noncomputable def outerB (s : Bool) (x a0 a1 a2 a3 b0 b1 b2 b3 : Int) : Bool := s || decide (∃ x' y', x ≤ x' ∧ x' ≤ 24 ∧ -24 ≤ y' ∧ y' ≤ 24 ∧ in2 a0 a1 a2 a3 x' y' = true ∧ in2 b0 b1 b2 b3 x' y' = true)
theorem innerB_iff (s : Bool) (x y a0 a1 a2 a3 b0 b1 b2 b3 : Int) : innerB s x y a0 a1 a2 a3 b0 b1 b2 b3 = true ↔ (s = true ∨ ∃ y', y ≤ y' ∧ y' ≤ 24 ∧ in2 a0 a1 a2 a3 x y' = true ∧ in2 b0 b1 b2 b3 x y' = true) := by
  simp only [innerB, Bool.or_eq_true, decide_eq_true_eq]
theorem outerB_iff (s : Bool) (x a0 a1 a2 a3 b0 b1 b2 b3 : Int) : outerB s x a0 a1 a2 a3 b0 b1 b2 b3 = true ↔ (s = true ∨ ∃ x' y', x ≤ x' ∧ x' ≤ 24 ∧ -24 ≤ y' ∧ y' ≤ 24 ∧ in2 a0 a1 a2 a3 x' y' = true ∧ in2 b0 b1 b2 b3 x' y' = true) := by
  simp only [outerB, Bool.or_eq_true, decide_eq_true_eq]
noncomputable def inner4 : List D → List D
  | [.b s, .i x, .i y, .i a0, .i a1, .i a2, .i a3, .i b0, .i b1, .i b2, .i b3] => [.i 0, .b (innerB s x y a0 a1 a2 a3 b0 b1 b2 b3), .i 25]
  | _ => []
noncomputable def outer4 : List D → List D
  | [.b s, .i x, .i a0, .i a1, .i a2, .i a3, .i b0, .i b1, .i b2, .i b3] => [.i 0, .b (outerB s x a0 a1 a2 a3 b0 b1 b2 b3), .i 25]
  | _ => []

noncomputable def F4 : FuncId → List D → List D := tabOf [(16, fn16), (15, fn15), (17, fn17), (18, fn18), (10400, inner4), (10401, outer4)]

def preI4 (ρ : List D) : Prop := ∃ s x y a0 a1 a2 a3 b0 b1 b2 b3, ρ = [.b s, .i x, .i y, .i a0, .i a1, .i a2, .i a3, .i b0, .i b1, .i b2, .i b3] ∧ (-24 ≤ x ∧ x ≤ 24) ∧ (-24 ≤ y ∧ y ≤ 25) ∧ near12 a0 a1 a2 a3 ∧ near12 b0 b1 b2 b3
def preO4 (ρ : List D) : Prop := ∃ s x a0 a1 a2 a3 b0 b1 b2 b3, ρ = [.b s, .i x, .i a0, .i a1, .i a2, .i a3, .i b0, .i b1, .i b2, .i b3] ∧ (-24 ≤ x ∧ x ≤ 25) ∧ near12 a0 a1 a2 a3 ∧ near12 b0 b1 b2 b3
def pre4 (f : FuncId) (ρ : List D) : Prop := if f = 10400 then preI4 ρ else if f = 10401 then preO4 ρ else True

theorem hM4 : ∀ f S, sgOf sg4 f = some S → Meets Try.prog f S (pre4 f) (F4 f) := sgOf_all (by
  intro e he
  simp only [sg4, List.mem_cons, List.not_mem_nil, or_false] at he
  rcases he with rfl | rfl | rfl | rfl
  all_goals first | exact m16 | exact m15 | exact m17 | exact m18)

theorem loop4_1 : LoopMeets Try.prog F4 (pre4 L4_1.key) L4_1 lb4_1 := by
  refine loop_meets (pre := pre4) mixed hM4 (loops_n 0 lk4_1 fun k hk => by omega) L4_1 (fun ρ => (25 - (ρ.getD 2 default).int).toNat) le4_1 fun ρ _ hp => ?_
  obtain ⟨s, x, y, a0, a1, a2, a3, b0, b1, b2, b3, rfl, hx, hy, ha, hb⟩ : preI4 ρ := hp
  have ey : y ≤ 24 → IntKind.i64.wrap (y + 1) = y + 1 := fun h => by rw [wrap_i64]; omega
  simp only [rt4_1, VT.ok, X.ds, X.d, Op1.ev, Op2.ev, List.getD_cons_zero, List.getD_cons_succ, D.int_i, D.bool_b, show F4 17 = fn17 from rfl, fn17_eq _ _ _ _ _ _ ha, fn17_eq _ _ _ _ _ _ hb, ite_and, ite_or, decide_eq_true_eq]
  split
  · rename_i h24
    refine ⟨fun _ => trivial, fun _ => trivial, ?_⟩
    rw [ey h24]
    refine ⟨⟨s || (in2 a0 a1 a2 a3 x y && in2 b0 b1 b2 b3 x y), x, y + 1, a0, a1, a2, a3, b0, b1, b2, b3, rfl, hx, by omega, ha, hb⟩, ?_, ?_⟩
    · show (25 - (y + 1)).toNat < (25 - y).toNat
      omega
    · show inner4 [.b (s || (in2 a0 a1 a2 a3 x y && in2 b0 b1 b2 b3 x y)), .i x, .i (y + 1), .i a0, .i a1, .i a2, .i a3, .i b0, .i b1, .i b2, .i b3] = inner4 [.b s, .i x, .i y, .i a0, .i a1, .i a2, .i a3, .i b0, .i b1, .i b2, .i b3]
      simp only [inner4]
      congr 3
      rw [Bool.eq_iff_iff]
      simp only [innerB_iff, Bool.or_eq_true, Bool.and_eq_true]
      constructor
      · rintro ((h | h) | ⟨y', h1, h2, h3⟩)
        · exact .inl h
        · exact .inr ⟨y, Int.le_refl _, h24, h⟩
        · exact .inr ⟨y', by omega, h2, h3⟩
      · rintro (h | ⟨y', h1, h2, h3⟩)
        · exact .inl (.inl h)
        · by_cases e : y' = y
          · subst e; exact .inl (.inr h3)
          · exact .inr ⟨y', by omega, h2, h3⟩
  · rename_i h24
    show inner4 [.b s, .i x, .i y, .i a0, .i a1, .i a2, .i a3, .i b0, .i b1, .i b2, .i b3] = [.i 0, .b s, .i y]
    have : y = 25 := by omega
    subst this
    simp only [inner4]
    congr 3
    rw [Bool.eq_iff_iff]
    simp only [innerB_iff]
    constructor
    · rintro (h | ⟨y', h1, h2, _⟩)
      · exact h
      · omega
    · exact .inl

theorem loop4_0 : LoopMeets Try.prog F4 (pre4 L4_0.key) L4_0 lb4_0 := by
  refine loop_meets (pre := pre4) mixed hM4 (loops_n 1 lk4_0 fun k hk => ?_) L4_0 (fun ρ => (25 - (ρ.getD 1 default).int).toNat) le4_0 fun ρ _ hp => ?_
  · have : k = 0 := by omega
    subst this
    rw [li4_0_0]
    exact loop_this lf4_1 loop4_1
  obtain ⟨s, x, a0, a1, a2, a3, b0, b1, b2, b3, rfl, hx, ha, hb⟩ : preO4 ρ := hp
  have ex : x ≤ 24 → IntKind.i64.wrap (x + 1) = x + 1 := fun h => by rw [wrap_i64]; omega
  simp only [rt4_0, VT.ok, X.ds, X.d, Op2.ev, List.getD_cons_zero, List.getD_cons_succ, D.int_i, D.bool_b, show F4 10400 = inner4 from rfl, decide_eq_true_eq]
  split
  · rename_i h24
    refine ⟨fun _ => ⟨s, x, -24, a0, a1, a2, a3, b0, b1, b2, b3, rfl, by omega, by omega, ha, hb⟩, ?_⟩
    simp only [inner4, List.getD_cons_zero, List.getD_cons_succ]
    rw [ex h24]
    refine ⟨⟨_, x + 1, a0, a1, a2, a3, b0, b1, b2, b3, rfl, by omega, ha, hb⟩, ?_, ?_⟩
    · show (25 - (x + 1)).toNat < (25 - x).toNat
      omega
    · show outer4 [.b (innerB s x (-24) a0 a1 a2 a3 b0 b1 b2 b3), .i (x + 1), .i a0, .i a1, .i a2, .i a3, .i b0, .i b1, .i b2, .i b3] = outer4 [.b s, .i x, .i a0, .i a1, .i a2, .i a3, .i b0, .i b1, .i b2, .i b3]
      simp only [outer4]
      congr 3
      rw [Bool.eq_iff_iff]
      simp only [outerB_iff, innerB_iff]
      constructor
      · rintro ((h | ⟨y', h1, h2, h3⟩) | ⟨x', y', h1, h2, h3⟩)
        · exact .inl h
        · exact .inr ⟨x, y', Int.le_refl _, h24, h1, h2, h3⟩
        · exact .inr ⟨x', y', by omega, h2, h3⟩
      · rintro (h | ⟨x', y', h1, h2, h3, h4, h5⟩)
        · exact .inl (.inl h)
        · by_cases e : x' = x
          · subst e; exact .inl (.inr ⟨y', h3, h4, h5⟩)
          · exact .inr ⟨x', y', by omega, h2, h3, h4, h5⟩
  · rename_i h24
    show outer4 [.b s, .i x, .i a0, .i a1, .i a2, .i a3, .i b0, .i b1, .i b2, .i b3] = [.i 0, .b s, .i x]
    have : x = 25 := by omega
    subst this
    simp only [outer4]
    congr 3
    rw [Bool.eq_iff_iff]
    simp only [outerB_iff]
    constructor
    · rintro (h | ⟨x', y', h1, h2, _⟩)
      · exact h
      · omega
    · exact .inl

def nearB (a b c d : Int) : Bool := decide (-12 ≤ a) && decide (c ≤ 12) && decide (-12 ≤ b) && decide (d ≤ 12) && bv a b c d
theorem fn16_eq (a b c d : Int) : fn16 [.i a, .i b, .i c, .i d] = [.b (nearB a b c d)] := by
  simp only [fn16, vt16, VT.val, X.ds, X.d, Op2.ev, List.getD_cons_zero, List.getD_cons_succ, D.int_i, D.bool_b, show T16 10 = fn10 from rfl, fn10_eq, ite_and, nearB]
theorem nearB_spec {a b c d : Int} (h : nearB a b c d = true) : near12 a b c d ∧ bv a b c d = true := by
  simp only [nearB, Bool.and_eq_true, decide_eq_true_eq] at h
  have := bv_spec h.2
  exact ⟨by unfold near12; omega, h.2⟩

theorem outer_over {a0 a1 a2 a3 b0 b1 b2 b3 : Int} (ha : nearB a0 a1 a2 a3 = true) (hb : nearB b0 b1 b2 b3 = true) :
    outer4 [.b false, .i (-24), .i a0, .i a1, .i a2, .i a3, .i b0, .i b1, .i b2, .i b3] = [.i 0, .b (over a0 a1 a2 a3 b0 b1 b2 b3), .i 25] := by
  obtain ⟨na, va⟩ := nearB_spec ha
  obtain ⟨nb, vb⟩ := nearB_spec hb
  simp only [near12] at na nb
  simp only [outer4]
  congr 3
  rw [Bool.eq_iff_iff, outerB_iff]
  simp only [decide_eq_true_eq, over, va, vb, Bool.and_eq_true, Bool.true_and, in2, Bool.false_eq_true, false_or]
  constructor
  · rintro ⟨x', y', h1, h2, h3, h4, h5, h6⟩
    omega
  · rintro ⟨h1, h2⟩
    exact ⟨2 * max a0 b0 + 1, 2 * max a1 b1 + 1, by omega, by omega, by omega, by omega, by omega, by omega⟩

theorem law4 : Meets Try.prog 4 S4 (fun _ => True) (fun _ => [.b true]) := by
  refine meets_of_vt (pre := pre4) mixed hM4 Try.func4 b4 n4 (loops_n 2 k4 fun k hk => ?_) e4 fun ds hf _ => ?_
  · match k, hk with
    | 0, _ => exact loop_this lf4_0 loop4_0
    | 1, _ => exact loop_this lf4_1 loop4_1
  match ds, hf.flat with
  | [d0, d1, d2, d3, d4, d5, d6, d7], ⟨h0, h1, h2, h3, h4, h5, h6, h7, _⟩ =>
    obtain ⟨a0, rfl, _⟩ := wf_i64 h0
    obtain ⟨a1, rfl, _⟩ := wf_i64 h1
    obtain ⟨a2, rfl, _⟩ := wf_i64 h2
    obtain ⟨a3, rfl, _⟩ := wf_i64 h3
    obtain ⟨b0, rfl, _⟩ := wf_i64 h4
    obtain ⟨b1, rfl, _⟩ := wf_i64 h5
    obtain ⟨b2, rfl, _⟩ := wf_i64 h6
    obtain ⟨b3, rfl, _⟩ := wf_i64 h7
    simp only [vt4, VT.ok, X.ds, X.d, Op1.ev, Op2.ev, List.getD_cons_zero, List.getD_cons_succ, D.bool_b, show F4 16 = fn16 from rfl, show F4 15 = fn15 from rfl, show F4 18 = fn18 from rfl, show F4 10401 = outer4 from rfl, fn16_eq, fn18_eq, fn15_eq]
    cases ha : nearB a0 a1 a2 a3 with
    | false => exact ⟨fun _ => trivial, fun _ => trivial, fun _ => trivial, trivial⟩
    | true =>
      cases hb : nearB b0 b1 b2 b3 with
      | false => exact ⟨fun _ => trivial, fun _ => trivial, fun _ => trivial, trivial⟩
      | true =>
        simp only [outer_over ha hb, List.getD_cons_zero, List.getD_cons_succ, D.bool_b, beq_self_eq_true, if_true]
        exact ⟨fun _ => trivial, fun _ => trivial, fun _ => ⟨false, -24, a0, a1, a2, a3, b0, b1, b2, b3, rfl, by omega, (nearB_spec ha).1, (nearB_spec hb).1⟩, fun _ => trivial, fun _ => trivial, trivial⟩
end Go.Proofs.Yteajmcpjcbjolaa.rv
