/-
  layoutlaw03.BoxUnions over data: the two unions.
-/
import Derived.Test.YteajmcpjcbjolaaRvBox7
namespace Go.Proofs.Yteajmcpjcbjolaa.rv
open Go.RV

def rowsOk (xs : List (List D)) : Prop := xs.length ≤ maxLen ∧ ∀ r ∈ xs, FitsF cts4 r

theorem rows_at {xs : List (List D)} (h : rowsOk xs) {i : Nat} (hi : i < xs.length) : ∃ a b c d : Int, xs.getD i [] = [.i a, .i b, .i c, .i d] ∧ xs.drop i = [.i a, .i b, .i c, .i d] :: xs.drop (i + 1) := by
  obtain ⟨a, b, c, d, e⟩ := row4 (h.2 xs[i] (List.getElem_mem hi))
  exact ⟨a, b, c, d, by simp [List.getD, hi, e], by rw [List.drop_eq_getElem_cons hi, e]⟩

def unionFrom (xs : List (List D)) (i : Int) (s : Option Q) : Option Q := ((xs.drop i.toNat).map qd).foldl stepU s

/-- the loop of the program: none, list, length, index, element, box -/
def loop27 : List D → List D
  | [.b n, .l xs, .i len, .i i, _, _, _, _, .i a, .i b, .i c, .i d] => let s := unionFrom xs i (stOf n (a, b, c, d)); [.i 0, .b s.isNone, .i len, .i (outOf s).1, .i (outOf s).2.1, .i (outOf s).2.2.1, .i (outOf s).2.2.2]
  | _ => []
def pre27 (ρ : List D) : Prop := ∃ n xs i t0 t1 t2 t3 a b c d, ρ = [.b n, .l xs, .i (xs.length : Int), .i i, t0, t1, t2, t3, .i a, .i b, .i c, .i d] ∧ rowsOk xs ∧ 0 ≤ i ∧ i ≤ xs.length ∧ (n = true → (a, b, c, d) = ((0, 0, 0, 0) : Q))
def F27 : FuncId → List D → List D := tabOf [(9, fn9), (12700, loop27)]
def preF27 (f : FuncId) (ρ : List D) : Prop := if f = 12700 then pre27 ρ else True

theorem hM27 : ∀ f S, sgOf sg27 f = some S → Meets Try.prog f S (preF27 f) (F27 f) := sgOf_all (by
  intro e he
  simp only [sg27, List.mem_cons, List.not_mem_nil, or_false] at he
  subst he
  exact m9)

theorem stOf_out (s : Option Q) (h : s = none → True) : stOf s.isNone (outOf s) = s := by cases s <;> rfl

theorem loopM27 : LoopMeets Try.prog F27 (preF27 L27_0.key) L27_0 lb27_0 := by
  refine loop_meets (pre := preF27) mixed hM27 (loops_n 0 lk27_0 fun k hk => by omega) L27_0 (fun ρ => ((ρ.getD 2 default).int - (ρ.getD 3 default).int).toNat) le27_0 fun ρ _ hp => ?_
  obtain ⟨n, xs, i, t0, t1, t2, t3, a, b, c, d, rfl, hr, h0, h1, hn⟩ : pre27 ρ := hp
  have hml : (xs.length : Int) ≤ 9223372036854775807 := by have := hr.1; simp only [maxLen] at this; omega
  simp only [rt27_0, VT.ok, Nd.holds, X.ds, X.d, Op1.ev, Op2.ev, List.getD_cons_zero, List.getD_cons_succ, D.int_i, D.bool_b, D.lst_l, show F27 9 = fn9 from rfl, decide_eq_true_eq]
  split
  · rename_i hlt
    have hi : i.toNat < xs.length := by omega
    obtain ⟨p, q, u, v, hg, hd⟩ := rows_at hr hi
    have ew : IntKind.i64.wrap (i + 1) = i + 1 := by rw [wrap_i64]; omega
    have et : (i + 1).toNat = i.toNat + 1 := by omega
    have hstep : ∀ s, unionFrom xs i s = unionFrom xs (i + 1) (stepU s (p, q, u, v)) := by
      intro s
      unfold unionFrom
      rw [et, hd]
      rfl
    simp only [hg, List.getD_cons_zero, List.getD_cons_succ, D.int_i, fn9_eq, D.bool_b, ew, imin, imax]
    refine ⟨fun _ => h0, fun _ => hlt, fun _ => trivial, ?_⟩
    have fin : ∀ (n' : Bool) (e f g h : Int), stepU (stOf n (a, b, c, d)) (p, q, u, v) = stOf n' (e, f, g, h) → (n' = true → (e, f, g, h) = ((0, 0, 0, 0) : Q)) →
        RoundOk F27 (preF27 L27_0.key) (fun ρ => ((ρ.getD 2 default).int - (ρ.getD 3 default).int).toNat) L27_0 [.b n, .l xs, .i (xs.length : Int), .i i, t0, t1, t2, t3, .i a, .i b, .i c, .i d] [.i (-1), .b n', .i (i + 1), .i e, .i f, .i g, .i h] := by
      intro n' e f g h hs hz
      refine ⟨⟨n', xs, i + 1, t0, t1, t2, t3, e, f, g, h, rfl, hr, by omega, by omega, hz⟩, ?_, ?_⟩
      · show ((xs.length : Int) - (i + 1)).toNat < ((xs.length : Int) - i).toNat
        omega
      · show loop27 [.b n', .l xs, .i (xs.length : Int), .i (i + 1), t0, t1, t2, t3, .i e, .i f, .i g, .i h] = loop27 [.b n, .l xs, .i (xs.length : Int), .i i, t0, t1, t2, t3, .i a, .i b, .i c, .i d]
        simp only [loop27]
        rw [hstep (stOf n (a, b, c, d)), hs]
    cases hv : bv p q u v with
    | false =>
      simp only [Bool.not_false, if_true]
      refine fin n a b c d ?_ hn
      simp [stepU, vq, hv]
    | true =>
      simp only [Bool.not_true, Bool.false_eq_true, if_false]
      cases n with
      | true =>
        simp only [if_true]
        refine fin false p q u v ?_ (fun h => by cases h)
        simp [stepU, vq, hv, stOf]
      | false =>
        simp only [Bool.false_eq_true, if_false]
        refine fin false (min a p) (min b q) (max c u) (max d v) ?_ (fun h => by cases h)
        simp [stepU, vq, hv, stOf, joinQ]
  · rename_i hlt
    have hi : i = xs.length := by omega
    subst hi
    show loop27 [.b n, .l xs, .i (xs.length : Int), .i (xs.length : Int), t0, t1, t2, t3, .i a, .i b, .i c, .i d] = [.i 0, .b n, .i (xs.length : Int), .i a, .i b, .i c, .i d]
    have hu : unionFrom xs (xs.length : Int) (stOf n (a, b, c, d)) = stOf n (a, b, c, d) := by
      unfold unionFrom
      simp
    simp only [loop27, hu]
    cases n with
    | true =>
      have := hn rfl
      simp only [Prod.mk.injEq] at this
      obtain ⟨rfl, rfl, rfl, rfl⟩ := this
      rfl
    | false => rfl

theorem m27 : Meets Try.prog 27 S27 (fun ds => ∃ xs, ds = [.l xs] ∧ rowsOk xs) (fun ds => match ds with | [.l xs] => [.i (outOf (unionQ xs)).1, .i (outOf (unionQ xs)).2.1, .i (outOf (unionQ xs)).2.2.1, .i (outOf (unionQ xs)).2.2.2] | _ => []) := by
  refine meets_of_vt (pre := preF27) mixed hM27 Try.func27 b27 n27 (loops_n 1 k27 fun k hk => ?_) e27 fun ds _ hp => ?_
  · have : k = 0 := by omega
    subst this
    exact loop_this lf27_0 loopM27
  · obtain ⟨xs, rfl, hr⟩ := hp
    have hl : loop27 [.b true, .l xs, .i (xs.length : Int), .i 0, .i 0, .i 0, .i 0, .i 0, .i 0, .i 0, .i 0, .i 0] = [.i 0, .b (unionQ xs).isNone, .i (xs.length : Int), .i (outOf (unionQ xs)).1, .i (outOf (unionQ xs)).2.1, .i (outOf (unionQ xs)).2.2.1, .i (outOf (unionQ xs)).2.2.2] := rfl
    simp only [vt27, VT.ok, Nd.holds, X.ds, X.d, Op1.ev, List.getD_cons_zero, List.getD_cons_succ, D.lst_l, show F27 12700 = loop27 from rfl, hl]
    exact ⟨fun _ => ⟨true, xs, 0, .i 0, .i 0, .i 0, .i 0, 0, 0, 0, 0, rfl, hr, by omega, by omega, fun _ => rfl⟩, trivial⟩
end Go.Proofs.Yteajmcpjcbjolaa.rv
