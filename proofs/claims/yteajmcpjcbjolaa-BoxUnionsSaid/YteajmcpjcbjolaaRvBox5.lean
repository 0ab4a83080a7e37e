/-
  The box package and its reference as functions of data: where a segment strikes.
-/
import Derived.Test.YteajmcpjcbjolaaRvBox4
namespace Go.Proofs.Yteajmcpjcbjolaa.rv
open Go.RV

def lowS (a b lo hi : Int) : Int := if b < a then a - hi else lo - a
def highS (a b lo hi : Int) : Int := if b < a then a - lo else hi - a
def denS (a b : Int) : Int := if b < a then a - b else b - a
def someS (a b lo hi : Int) : Bool := if b = a then decide (lo < a) && decide (a < hi) else decide (lowS a b lo hi < highS a b lo hi) && decide (lowS a b lo hi < denS a b) && decide (0 < highS a b lo hi)
def crossS (a b lo hi a' b' lo' hi' : Int) : Bool := decide (b = a) || decide (b' = a') || (decide (lowS a b lo hi * denS a' b' < highS a' b' lo' hi' * denS a b) && decide (lowS a' b' lo' hi' * denS a b < highS a b lo hi * denS a' b'))
def hitsB (x0 y0 x1 y1 ax ay bx byy : Int) : Bool := bv x0 y0 x1 y1 && pv ax ay && pv bx byy && someS ax bx x0 x1 && someS ay byy y0 y1 && crossS ax bx x0 x1 ay byy y0 y1

theorem pv_spec {x y : Int} (h : pv x y = true) : (-268435456 ≤ x ∧ x ≤ 268435456) ∧ (-268435456 ≤ y ∧ y ≤ 268435456) := by
  simp only [pv, Bool.and_eq_true, decide_eq_true_eq] at h
  omega

theorem mulb {x y : Int} (hx : -536870912 ≤ x ∧ x ≤ 536870912) (hy : -536870912 ≤ y ∧ y ≤ 536870912) : -288230376151711744 ≤ x * y ∧ x * y ≤ 288230376151711744 := by
  have h1 : x.natAbs ≤ 536870912 := by omega
  have h2 : y.natAbs ≤ 536870912 := by omega
  have h3 := Nat.mul_le_mul h1 h2
  rw [← Int.natAbs_mul] at h3
  omega
theorem wrap_mul {x y : Int} (hx : -536870912 ≤ x ∧ x ≤ 536870912) (hy : -536870912 ≤ y ∧ y ≤ 536870912) : IntKind.i64.wrap (x * y) = x * y := by
  have := mulb hx hy
  rw [wrap_i64]
  omega

theorem fn37_eq (n d m e : Int) (h1 : -536870912 ≤ n ∧ n ≤ 536870912) (h2 : -536870912 ≤ d ∧ d ≤ 536870912) (h3 : -536870912 ≤ m ∧ m ≤ 536870912) (h4 : -536870912 ≤ e ∧ e ≤ 536870912) : fn37 [.i n, .i d, .i m, .i e] = [.b (decide (n * e < m * d))] := by
  simp only [fn37, vt37, VT.val, X.ds, X.d, Op2.ev, List.getD_cons_zero, List.getD_cons_succ, D.int_i, wrap_mul h1 h4, wrap_mul h3 h2]

theorem lt_scale {l h d : Int} (hd : 0 < d) : (l * d < h * d) ↔ l < h := by
  constructor
  · intro hlt
    apply Int.lt_of_not_ge
    intro hge
    have := Int.mul_le_mul_of_nonneg_right hge (Int.le_of_lt hd)
    omega
  · intro hlt
    exact Int.mul_lt_mul_of_pos_right hlt hd

theorem lowS_b {a b lo hi : Int} (ha : -268435456 ≤ a ∧ a ≤ 268435456) (hl : -268435456 ≤ lo ∧ lo ≤ 268435456) (hh : -268435456 ≤ hi ∧ hi ≤ 268435456) : -536870912 ≤ lowS a b lo hi ∧ lowS a b lo hi ≤ 536870912 := by
  unfold lowS; split <;> omega
theorem highS_b {a b lo hi : Int} (ha : -268435456 ≤ a ∧ a ≤ 268435456) (hl : -268435456 ≤ lo ∧ lo ≤ 268435456) (hh : -268435456 ≤ hi ∧ hi ≤ 268435456) : -536870912 ≤ highS a b lo hi ∧ highS a b lo hi ≤ 536870912 := by
  unfold highS; split <;> omega
theorem denS_b {a b : Int} (ha : -268435456 ≤ a ∧ a ≤ 268435456) (hb : -268435456 ≤ b ∧ b ≤ 268435456) : 0 ≤ denS a b ∧ denS a b ≤ 536870912 := by
  unfold denS; split <;> omega
theorem denS_0 {a b : Int} : denS a b = 0 ↔ b = a := by
  unfold denS; split <;> omega

theorem fn36_eq (a b lo hi : Int) (ha : -268435456 ≤ a ∧ a ≤ 268435456) (hb : -268435456 ≤ b ∧ b ≤ 268435456) (hl : -268435456 ≤ lo ∧ lo ≤ 268435456) (hh : -268435456 ≤ hi ∧ hi ≤ 268435456) :
    fn36 [.i a, .i (b - a), .i lo, .i hi] = if b = a then [.i 0, .i 0, .i 0, .i 0, .b true, .b (someS a b lo hi)] else [.i (lowS a b lo hi), .i (denS a b), .i (highS a b lo hi), .i (denS a b), .b false, .b (someS a b lo hi)] := by
  have e1 : IntKind.i64.wrap (lo - a) = lo - a := by rw [wrap_i64]; omega
  have e2 : IntKind.i64.wrap (hi - a) = hi - a := by rw [wrap_i64]; omega
  have f1 : IntKind.i64.wrap (0 - a) = -a := by rw [wrap_i64]; omega
  have f2 : IntKind.i64.wrap (0 - (b - a)) = a - b := by rw [wrap_i64]; omega
  have f3 : IntKind.i64.wrap (0 - lo) = -lo := by rw [wrap_i64]; omega
  have f4 : IntKind.i64.wrap (0 - hi) = -hi := by rw [wrap_i64]; omega
  have f5 : IntKind.i64.wrap (-hi - -a) = a - hi := by rw [wrap_i64]; omega
  have f6 : IntKind.i64.wrap (-lo - -a) = a - lo := by rw [wrap_i64]; omega
  by_cases h0 : b = a
  · subst h0
    simp only [fn36, vt36, VT.val, X.ds, X.d, Op2.ev, List.getD_cons_zero, List.getD_cons_succ, D.int_i, D.bool_b, Int.sub_self, beq_self_eq_true, if_true, ite_and, someS]
  · have h0' : ((b - a) == 0) = false := by rw [beq_eq_false_iff_ne]; omega
    by_cases hn : b - a < 0
    · have hba : b < a := by omega
      have hd : (0 : Int) < a - b := by omega
      simp only [fn36, vt36, VT.val, X.ds, X.d, Op1.ev, Op2.ev, List.getD_cons_zero, List.getD_cons_succ, D.int_i, D.bool_b, h0', hn, decide_true, Bool.false_eq_true, if_false, if_true, f1, f2, f3, f4, f5, f6, show T36 37 = fn37 from rfl]
      rw [fn37_eq _ _ _ _ (by omega) (by omega) (by omega) (by omega), fn37_eq _ _ _ _ (by omega) (by omega) (by omega) (by omega), fn37_eq _ _ _ _ (by omega) (by omega) (by omega) (by omega)]
      simp only [List.getD_cons_zero, D.bool_b, ite_and, someS, h0, if_false, lowS, highS, denS, hba, if_true, lt_scale hd, Int.mul_one, Int.one_mul, Int.zero_mul]
    · have hba : ¬ b < a := by omega
      have hd : (0 : Int) < b - a := by omega
      simp only [fn36, vt36, VT.val, X.ds, X.d, Op2.ev, List.getD_cons_zero, List.getD_cons_succ, D.int_i, D.bool_b, h0', hn, decide_false, Bool.false_eq_true, if_false, e1, e2, show T36 37 = fn37 from rfl]
      rw [fn37_eq _ _ _ _ (by omega) (by omega) (by omega) (by omega), fn37_eq _ _ _ _ (by omega) (by omega) (by omega) (by omega), fn37_eq _ _ _ _ (by omega) (by omega) (by omega) (by omega)]
      simp only [List.getD_cons_zero, D.bool_b, ite_and, someS, h0, if_false, lowS, highS, denS, hba, lt_scale hd, Int.mul_one, Int.one_mul, Int.zero_mul]

theorem fn20_eq (x0 y0 x1 y1 ax ay bx byy : Int) : fn20 [.i x0, .i y0, .i x1, .i y1, .i ax, .i ay, .i bx, .i byy] = [.b (hitsB x0 y0 x1 y1 ax ay bx byy)] := by
  simp only [fn20, vt20, VT.val, X.ds, X.d, Op1.ev, Op2.ev, List.getD_cons_zero, List.getD_cons_succ, D.int_i, D.bool_b, show T20 9 = fn9 from rfl, show T20 31 = fn31 from rfl, show T20 36 = fn36 from rfl, show T20 37 = fn37 from rfl, fn9_eq, fn31_eq, hitsB]
  cases hb : bv x0 y0 x1 y1 with
  | false => rfl
  | true =>
    cases hp : pv ax ay with
    | false => rfl
    | true =>
      cases hq : pv bx byy with
      | false => rfl
      | true =>
        have b1 := bv_spec hb
        have b2 := pv_spec hp
        have b3 := pv_spec hq
        have e1 : IntKind.i64.wrap (bx - ax) = bx - ax := by rw [wrap_i64]; omega
        have e2 : IntKind.i64.wrap (byy - ay) = byy - ay := by rw [wrap_i64]; omega
        have l1 := lowS_b (a := ax) (b := bx) (lo := x0) (hi := x1) (by omega) (by omega) (by omega)
        have l2 := highS_b (a := ax) (b := bx) (lo := x0) (hi := x1) (by omega) (by omega) (by omega)
        have l3 := lowS_b (a := ay) (b := byy) (lo := y0) (hi := y1) (by omega) (by omega) (by omega)
        have l4 := highS_b (a := ay) (b := byy) (lo := y0) (hi := y1) (by omega) (by omega) (by omega)
        have l5 := denS_b (a := ax) (b := bx) (by omega) (by omega)
        have l6 := denS_b (a := ay) (b := byy) (by omega) (by omega)
        simp only [e1, e2]
        rw [fn36_eq ax bx x0 x1 (by omega) (by omega) (by omega) (by omega), fn36_eq ay byy y0 y1 (by omega) (by omega) (by omega) (by omega)]
        by_cases hx : bx = ax <;> by_cases hy : byy = ay <;>
          simp only [hx, hy, if_true, if_false, List.getD_cons_zero, List.getD_cons_succ, D.bool_b, Bool.not_true, Bool.false_eq_true, crossS, decide_true, decide_false, Bool.true_or, Bool.or_true, Bool.false_or, Bool.and_true, Bool.true_and]
        · cases someS ax ax x0 x1 <;> cases someS ay ay y0 y1 <;> rfl
        · cases someS ax ax x0 x1 <;> cases someS ay byy y0 y1 <;> rfl
        · cases someS ax bx x0 x1 <;> cases someS ay ay y0 y1 <;> rfl
        · rw [fn37_eq _ _ _ _ l1 ⟨by omega, by omega⟩ l4 ⟨by omega, by omega⟩, fn37_eq _ _ _ _ l3 ⟨by omega, by omega⟩ l2 ⟨by omega, by omega⟩]
          simp only [List.getD_cons_zero, D.bool_b, ite_and]
          cases someS ax bx x0 x1 <;> cases someS ay byy y0 y1 <;> rfl

theorem g34_eq (a b lo hi : Int) : g34 [.i a, .i (b - a), .i lo, .i hi] = [.i (lowS a b lo hi), .i (highS a b lo hi), .i (denS a b), .b (decide (b ≠ a) || (decide (lo < a) && decide (a < hi)))] := by
  by_cases h : b < a
  · have h1 : b - a < 0 := by omega
    have h2 : b ≠ a := by omega
    have h3 : -(b - a) = a - b := by omega
    simp only [g34, h1, if_true, lowS, highS, denS, h, h2, h3, ne_eq, not_false_eq_true, decide_true, Bool.true_or]
  · have h1 : ¬ b - a < 0 := by omega
    have h2 : decide (0 < b - a) = decide (b ≠ a) := by rw [Bool.eq_iff_iff]; simp only [decide_eq_true_eq]; omega
    simp only [g34, h1, if_false, lowS, highS, denS, h, h2]

theorem fn35_eq (l h d : Int) (ok : Bool) : fn35 [.i l, .i h, .i d, .b ok] = [.b (ok && ((d == 0) || (decide (l < h) && decide (l < d) && decide (0 < h))))] := by
  simp only [fn35, vt35, VT.val, X.ds, X.d, Op2.ev, List.getD_cons_zero, List.getD_cons_succ, D.int_i, D.bool_b, ite_and, ite_or]

theorem some_eq (a b lo hi : Int) : ((decide (b ≠ a) || (decide (lo < a) && decide (a < hi))) && ((denS a b == 0) || (decide (lowS a b lo hi < highS a b lo hi) && decide (lowS a b lo hi < denS a b) && decide (0 < highS a b lo hi)))) = someS a b lo hi := by
  by_cases h : b = a
  · have h1 : (denS a b == 0) = true := by rw [beq_iff_eq, denS_0]; exact h
    simp only [someS, h, h1, ne_eq, not_true_eq_false, decide_false, Bool.false_or, Bool.true_or, Bool.and_true, if_true]
    have h2 : (denS a a == 0) = true := by rw [beq_iff_eq, denS_0]
    simp only [h2, Bool.true_or, Bool.and_true]
  · have h1 : (denS a b == 0) = false := by rw [beq_eq_false_iff_ne]; exact fun e => h (denS_0.1 e)
    simp only [someS, h, h1, ne_eq, not_false_eq_true, decide_true, Bool.true_or, Bool.true_and, Bool.false_or, if_false]

def F19 : FuncId → List D → List D := tabOf [(10, fn10), (21, fn21), (34, g34), (35, fn35)]
def pre19 (f : FuncId) (ρ : List D) : Prop := if f = 34 then any34 ρ else True
def g19 : List D → List D
  | [.i x0, .i y0, .i x1, .i y1, .i ax, .i ay, .i bx, .i byy] => [.b (hitsB x0 y0 x1 y1 ax ay bx byy)]
  | _ => []

theorem m19 : Meets Try.prog 19 S19 (fun _ => True) g19 := by
  refine meets_of_vt (pre := pre19) (Φ := F19) mixed (sgOf_all (pre := pre19) (Φ := F19) (l := sg19) ?_) Try.func19 b19 n19 (loops_n 0 k19 fun k hk => by omega) e19 fun ds hf _ => ?_
  · intro e he
    simp only [sg19, List.mem_cons, List.not_mem_nil, or_false] at he
    rcases he with rfl | rfl | rfl | rfl
    · exact m10
    · exact m21
    · exact m34
    · exact m35
  match ds, hf.flat with
  | [d0, d1, d2, d3, d4, d5, d6, d7], ⟨h0, h1, h2, h3, h4, h5, h6, h7, _⟩ =>
    obtain ⟨x0, rfl, _⟩ := wf_i64 h0
    obtain ⟨y0, rfl, _⟩ := wf_i64 h1
    obtain ⟨x1, rfl, _⟩ := wf_i64 h2
    obtain ⟨y1, rfl, _⟩ := wf_i64 h3
    obtain ⟨ax, rfl, _⟩ := wf_i64 h4
    obtain ⟨ay, rfl, _⟩ := wf_i64 h5
    obtain ⟨bx, rfl, _⟩ := wf_i64 h6
    obtain ⟨byy, rfl, _⟩ := wf_i64 h7
    simp only [vt19, VT.ok, Nd.holds, X.ds, X.d, Op1.ev, Op2.ev, List.getD_cons_zero, List.getD_cons_succ, D.int_i, D.bool_b, show F19 10 = fn10 from rfl, show F19 21 = fn21 from rfl, show F19 34 = g34 from rfl, show F19 35 = fn35 from rfl, fn10_eq, fn21_eq, g19, hitsB]
    cases hb : bv x0 y0 x1 y1 with
    | false => exact ⟨fun _ => trivial, fun _ => trivial, fun _ => trivial, rfl⟩
    | true =>
      cases hp : pv ax ay with
      | false => exact ⟨fun _ => trivial, fun _ => trivial, fun _ => trivial, rfl⟩
      | true =>
        cases hq : pv bx byy with
        | false => exact ⟨fun _ => trivial, fun _ => trivial, fun _ => trivial, rfl⟩
        | true =>
          have b1 := bv_spec hb
          have b2 := pv_spec hp
          have b3 := pv_spec hq
          have e1 : IntKind.i64.wrap (bx - ax) = bx - ax := by rw [wrap_i64]; omega
          have e2 : IntKind.i64.wrap (byy - ay) = byy - ay := by rw [wrap_i64]; omega
          have l1 := lowS_b (a := ax) (b := bx) (lo := x0) (hi := x1) (by omega) (by omega) (by omega)
          have l2 := highS_b (a := ax) (b := bx) (lo := x0) (hi := x1) (by omega) (by omega) (by omega)
          have l3 := lowS_b (a := ay) (b := byy) (lo := y0) (hi := y1) (by omega) (by omega) (by omega)
          have l4 := highS_b (a := ay) (b := byy) (lo := y0) (hi := y1) (by omega) (by omega) (by omega)
          have l5 := denS_b (a := ax) (b := bx) (by omega) (by omega)
          have l6 := denS_b (a := ay) (b := byy) (by omega) (by omega)
          simp only [e1, e2, g34_eq, List.getD_cons_zero, List.getD_cons_succ, D.int_i, D.bool_b, fn35_eq, some_eq, wrap_mul l1 ⟨Int.le_trans (by omega) l6.1, l6.2⟩, wrap_mul l4 ⟨Int.le_trans (by omega) l5.1, l5.2⟩, wrap_mul l3 ⟨Int.le_trans (by omega) l5.1, l5.2⟩, wrap_mul l2 ⟨Int.le_trans (by omega) l6.1, l6.2⟩]
          refine ⟨fun _ => trivial, fun _ => trivial, fun _ => trivial, ?_⟩
          simp only [Bool.not_true, Bool.false_eq_true, if_false]
          refine ⟨fun _ => ⟨ax, bx - ax, x0, x1, rfl, by unfold bnd34; omega⟩, fun _ => ⟨ay, byy - ay, y0, y1, rfl, by unfold bnd34; omega⟩, fun _ => trivial, fun _ => trivial, ?_⟩
          have c1 : (denS ax bx == 0) = decide (bx = ax) := by rw [Bool.eq_iff_iff, beq_iff_eq, denS_0, decide_eq_true_eq]
          have c2 : (denS ay byy == 0) = decide (byy = ay) := by rw [Bool.eq_iff_iff, beq_iff_eq, denS_0, decide_eq_true_eq]
          simp only [c1, c2, crossS]
          cases someS ax bx x0 x1 <;> cases someS ay byy y0 y1 <;> simp only [Bool.not_true, Bool.not_false, Bool.false_eq_true, if_false, if_true, D.bool_b, Bool.true_and, Bool.and_true, Bool.false_and, Bool.and_false]
          cases decide (bx = ax) <;> cases decide (byy = ay) <;> simp only [ite_and, if_true, if_false, Bool.false_eq_true, D.bool_b, Bool.true_or, Bool.or_true, Bool.false_or]
end Go.Proofs.Yteajmcpjcbjolaa.rv
