/-
  layoutlaw03.BoxUnions over data: the union of the reference, and Inflate.
-/
import Derived.Test.YteajmcpjcbjolaaRvBox8
namespace Go.Proofs.Yteajmcpjcbjolaa.rv
open Go.RV

def loop28 : List D → List D
  | [.l xs, .b n, .i i, _, _, _, _, .i a, .i b, .i c, .i d] => let s := unionFrom xs i (stOf (!n) (a, b, c, d)); [.i 0, .b s.isSome, .i (xs.length : Int), .i (outOf s).1, .i (outOf s).2.1, .i (outOf s).2.2.1, .i (outOf s).2.2.2]
  | _ => []
def pre28 (ρ : List D) : Prop := ∃ n xs i t0 t1 t2 t3 a b c d, ρ = [.l xs, .b n, .i i, t0, t1, t2, t3, .i a, .i b, .i c, .i d] ∧ rowsOk xs ∧ 0 ≤ i ∧ i ≤ xs.length ∧ (n = false → (a, b, c, d) = ((0, 0, 0, 0) : Q))
def F28 : FuncId → List D → List D := tabOf [(10, fn10), (12800, loop28)]
def preF28 (f : FuncId) (ρ : List D) : Prop := if f = 12800 then pre28 ρ else True

theorem hM28 : ∀ f S, sgOf sg28 f = some S → Meets Try.prog f S (preF28 f) (F28 f) := sgOf_all (by
  intro e he
  simp only [sg28, List.mem_cons, List.not_mem_nil, or_false] at he
  subst he
  exact m10)

theorem loopM28 : LoopMeets Try.prog F28 (preF28 L28_0.key) L28_0 lb28_0 := by
  refine loop_meets (pre := preF28) mixed hM28 (loops_n 0 lk28_0 fun k hk => by omega) L28_0 (fun ρ => (((ρ.getD 0 default).lst.length : Int) - (ρ.getD 2 default).int).toNat) le28_0 fun ρ _ hp => ?_
  obtain ⟨n, xs, i, t0, t1, t2, t3, a, b, c, d, rfl, hr, h0, h1, hn⟩ : pre28 ρ := hp
  have hml : (xs.length : Int) ≤ 9223372036854775807 := by have := hr.1; simp only [maxLen] at this; omega
  simp only [rt28_0, VT.ok, Nd.holds, X.ds, X.d, Op1.ev, Op2.ev, List.getD_cons_zero, List.getD_cons_succ, D.int_i, D.bool_b, D.lst_l, show F28 10 = fn10 from rfl, decide_eq_true_eq]
  split
  · rename_i hlt
    have hi : i.toNat < xs.length := by omega
    obtain ⟨p, q, u, v, hg, hd⟩ := rows_at hr hi
    have ew : IntKind.i64.wrap (i + 1) = i + 1 := by rw [wrap_i64]; omega
    have et : (i + 1).toNat = i.toNat + 1 := by omega
    have hstep : ∀ s, unionFrom xs i s = unionFrom xs (i + 1) (stepU s (p, q, u, v)) := by
      intro s
      unfold unionFrom
      rw [et, hd]
      rfl
    simp only [hg, List.getD_cons_zero, List.getD_cons_succ, D.int_i, fn10_eq, D.bool_b, ew, imin, imax, Int.min_self]
    refine ⟨fun _ => h0, fun _ => hlt, fun _ => trivial, ?_⟩
    have fin : ∀ (n' : Bool) (e f g h : Int), stepU (stOf (!n) (a, b, c, d)) (p, q, u, v) = stOf (!n') (e, f, g, h) → (n' = false → (e, f, g, h) = ((0, 0, 0, 0) : Q)) →
        RoundOk F28 (preF28 L28_0.key) (fun ρ => (((ρ.getD 0 default).lst.length : Int) - (ρ.getD 2 default).int).toNat) L28_0 [.l xs, .b n, .i i, t0, t1, t2, t3, .i a, .i b, .i c, .i d] [.i (-1), .b n', .i (i + 1), .i e, .i f, .i g, .i h] := by
      intro n' e f g h hs hz
      refine ⟨⟨n', xs, i + 1, t0, t1, t2, t3, e, f, g, h, rfl, hr, by omega, by omega, hz⟩, ?_, ?_⟩
      · show ((xs.length : Int) - (i + 1)).toNat < ((xs.length : Int) - i).toNat
        omega
      · show loop28 [.l xs, .b n', .i (i + 1), t0, t1, t2, t3, .i e, .i f, .i g, .i h] = loop28 [.l xs, .b n, .i i, t0, t1, t2, t3, .i a, .i b, .i c, .i d]
        simp only [loop28]
        rw [hstep (stOf (!n) (a, b, c, d)), hs]
    cases hv : bv p q u v with
    | false =>
      simp only [Bool.not_false, if_true]
      refine fin n a b c d ?_ hn
      simp [stepU, vq, hv]
    | true =>
      simp only [Bool.not_true, Bool.false_eq_true, if_false]
      cases n with
      | false =>
        simp only [Bool.not_false, if_true]
        refine fin true p q u v ?_ (fun h => by cases h)
        simp [stepU, vq, hv, stOf]
      | true =>
        simp only [Bool.not_true, Bool.false_eq_true, if_false]
        refine fin true (min a p) (min b q) (max c u) (max d v) ?_ (fun h => by cases h)
        simp [stepU, vq, hv, stOf, joinQ]
  · rename_i hlt
    have hi : i = xs.length := by omega
    subst hi
    show loop28 [.l xs, .b n, .i (xs.length : Int), t0, t1, t2, t3, .i a, .i b, .i c, .i d] = [.i 0, .b n, .i (xs.length : Int), .i a, .i b, .i c, .i d]
    have hu : unionFrom xs (xs.length : Int) (stOf (!n) (a, b, c, d)) = stOf (!n) (a, b, c, d) := by
      unfold unionFrom
      simp
    simp only [loop28, hu]
    cases n with
    | false =>
      have := hn rfl
      simp only [Prod.mk.injEq] at this
      obtain ⟨rfl, rfl, rfl, rfl⟩ := this
      rfl
    | true => rfl

def uni : List D → List D
  | [.l xs] => [.i (outOf (unionQ xs)).1, .i (outOf (unionQ xs)).2.1, .i (outOf (unionQ xs)).2.2.1, .i (outOf (unionQ xs)).2.2.2]
  | _ => []
def uniPre (ds : List D) : Prop := ∃ xs, ds = [.l xs] ∧ rowsOk xs

theorem m28 : Meets Try.prog 28 S28 uniPre uni := by
  refine meets_of_vt (pre := preF28) mixed hM28 Try.func28 b28 n28 (loops_n 1 k28 fun k hk => ?_) e28 fun ds _ hp => ?_
  · have : k = 0 := by omega
    subst this
    exact loop_this lf28_0 loopM28
  · obtain ⟨xs, rfl, hr⟩ := hp
    have hl : loop28 [.l xs, .b false, .i 0, .i 0, .i 0, .i 0, .i 0, .i 0, .i 0, .i 0, .i 0] = [.i 0, .b (unionQ xs).isSome, .i (xs.length : Int), .i (outOf (unionQ xs)).1, .i (outOf (unionQ xs)).2.1, .i (outOf (unionQ xs)).2.2.1, .i (outOf (unionQ xs)).2.2.2] := rfl
    simp only [vt28, VT.ok, Nd.holds, X.ds, X.d, List.getD_cons_zero, List.getD_cons_succ, show F28 12800 = loop28 from rfl, hl]
    exact ⟨fun _ => ⟨false, xs, 0, .i 0, .i 0, .i 0, .i 0, 0, 0, 0, 0, rfl, hr, by omega, by omega, fun _ => rfl⟩, rfl⟩
theorem m27' : Meets Try.prog 27 S27 uniPre uni := m27.to fun ds _ hp => by
  obtain ⟨xs, rfl, hr⟩ := hp
  exact ⟨⟨xs, rfl, hr⟩, rfl⟩

def infl (a b c d k : Int) : List D := if bv a b c d = true ∧ -536870912 ≤ k ∧ k ≤ 536870912 ∧ bv (a - k) (b - k) (c + k) (d + k) = true then [.i (a - k), .i (b - k), .i (c + k), .i (d + k)] else [.i 0, .i 0, .i 0, .i 0]
theorem infl_no {a b c d k : Int} (h : bv a b c d = false ∨ k < -536870912 ∨ 536870912 < k) : infl a b c d k = [.i 0, .i 0, .i 0, .i 0] := by
  unfold infl
  rw [if_neg]
  rintro ⟨h1, h2, h3, _⟩
  rcases h with h | h | h
  · rw [h] at h1; cases h1
  · omega
  · omega
theorem fn29_eq (a b c d k : Int) : fn29 [.i a, .i b, .i c, .i d, .i k] = infl a b c d k := by
  simp only [fn29, vt29, VT.val, X.ds, X.d, Op1.ev, Op2.ev, List.getD_cons_zero, List.getD_cons_succ, D.int_i, D.bool_b, show T29 9 = fn9 from rfl, show T29 33 = fn33 from rfl, fn9_eq, ite_or]
  cases hv : bv a b c d with
  | false => rw [infl_no (.inl hv)]; rfl
  | true =>
    by_cases h1 : 536870912 < k
    · rw [infl_no (.inr (.inr h1))]; simp [h1]
    · by_cases h2 : k < -536870912
      · rw [infl_no (.inr (.inl h2))]; simp [h2]
      · have := bv_spec hv
        have e1 : IntKind.i64.wrap (a - k) = a - k := by rw [wrap_i64]; omega
        have e2 : IntKind.i64.wrap (b - k) = b - k := by rw [wrap_i64]; omega
        have e3 : IntKind.i64.wrap (c + k) = c + k := by rw [wrap_i64]; omega
        have e4 : IntKind.i64.wrap (d + k) = d + k := by rw [wrap_i64]; omega
        simp only [h1, h2, decide_false, Bool.not_true, Bool.or_self, Bool.false_eq_true, if_false, e1, e2, e3, e4, fn33_eq, infl, hv, true_and]
        cases hw : bv (a - k) (b - k) (c + k) (d + k) with
        | false => simp
        | true => simp; omega
theorem fn30_eq (a b c d k : Int) : fn30 [.i a, .i b, .i c, .i d, .i k] = infl a b c d k := by
  simp only [fn30, vt30, VT.val, X.ds, X.d, Op1.ev, Op2.ev, List.getD_cons_zero, List.getD_cons_succ, D.int_i, D.bool_b, show T30 10 = fn10 from rfl, fn10_eq, ite_or]
  cases hv : bv a b c d with
  | false => rw [infl_no (.inl hv)]; rfl
  | true =>
    by_cases h1 : 536870912 < k
    · rw [infl_no (.inr (.inr h1))]; simp [h1]
    · by_cases h2 : k < -536870912
      · rw [infl_no (.inr (.inl h2))]; simp [h2]
      · have := bv_spec hv
        have e1 : IntKind.i64.wrap (a - k) = a - k := by rw [wrap_i64]; omega
        have e2 : IntKind.i64.wrap (b - k) = b - k := by rw [wrap_i64]; omega
        have e3 : IntKind.i64.wrap (c + k) = c + k := by rw [wrap_i64]; omega
        have e4 : IntKind.i64.wrap (d + k) = d + k := by rw [wrap_i64]; omega
        simp only [h1, h2, decide_false, Bool.not_true, Bool.or_self, Bool.false_eq_true, if_false, e1, e2, e3, e4, infl, hv, true_and]
        cases hw : bv (a - k) (b - k) (c + k) (d + k) with
        | false => simp
        | true => simp; omega
end Go.Proofs.Yteajmcpjcbjolaa.rv
