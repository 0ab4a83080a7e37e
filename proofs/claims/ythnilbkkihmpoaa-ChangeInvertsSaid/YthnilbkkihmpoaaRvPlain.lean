/-
  RV, part 20: small lemmas for plain laws over data.
-/
import Derived.Test.YthnilbkkihmpoaaRvUse
import Derived.Test.YthnilbkkihmpoaaRvPfn
namespace Go.RV
open Go.RowKit

theorem takeD1_0 (l : List D) : (takeD 1 l).getD 0 default = l.getD 0 default := takeD_get 1 l 0 (by omega)
theorem ite_b (c : Bool) (x y : Bool) : (if c = true then D.b x else D.b y) = D.b (if c = true then x else y) := by cases c <;> rfl
theorem ite_i (c : Bool) (x y : Int) : (if c = true then D.i x else D.i y) = D.i (if c = true then x else y) := by cases c <;> rfl
theorem ite_int (c : Bool) (x y : D) : (if c = true then x else y).int = if c = true then x.int else y.int := by cases c <;> rfl
theorem ite_bool (c : Bool) (x y : D) : (if c = true then x else y).bool = if c = true then x.bool else y.bool := by cases c <;> rfl
theorem ite_lst (c : Bool) (x y : D) : (if c = true then x else y).lst = if c = true then x.lst else y.lst := by cases c <;> rfl
theorem ite_and (c x : Bool) : (if c = true then x else false) = (c && x) := by cases c <;> rfl
theorem ite_or (c x : Bool) : (if c = true then true else x) = (c || x) := by cases c <;> rfl
theorem imin (a b : Int) : (if b < a then b else a) = min a b := by omega
theorem imax (a b : Int) : (if b > a then b else a) = max a b := by omega

theorem tdiv_lit (x k : Int) (_ : 0 < k) : x.tdiv k = if x < 0 then -((-x) / k) else x / k := by
  split
  · have h := Int.neg_tdiv (-x) k
    rw [Int.neg_neg] at h
    rw [h, Int.tdiv_eq_ediv_of_nonneg (by omega)]
  · exact Int.tdiv_eq_ediv_of_nonneg (by omega)
theorem tmod_lit (x k : Int) (_ : 0 < k) : x.tmod k = if x < 0 then -((-x) % k) else x % k := by
  split
  · have h := Int.neg_tmod (-x) k
    rw [Int.neg_neg] at h
    rw [h, Int.tmod_eq_emod_of_nonneg (by omega)]
  · exact Int.tmod_eq_emod_of_nonneg (by omega)

/-- a sum that needs no wrapping -/
theorem w64 {n : Int} (h : -9223372036854775808 ≤ n ∧ n ≤ 9223372036854775807) : IntKind.i64.wrap n = n := by rw [wrap_i64]; omega

theorem need_t {p q : Prop} (h : p) (k : q) : ((true = true → p) ∧ q) := ⟨fun _ => h, k⟩

theorem getD_map {α : Type} (f : α → D) (l : List α) (i : Nat) (d0 : α) (h : i < l.length) : (l.map f).getD i default = f (l.getD i d0) := by simp [List.getD, h]

theorem mul_bd {a b p q : Int} (ha : -p ≤ a ∧ a ≤ p) (hb : -q ≤ b ∧ b ≤ q) : -(p * q) ≤ a * b ∧ a * b ≤ p * q := by
  have h1 : 0 ≤ (p - a) * (q - b) := Int.mul_nonneg (by omega) (by omega)
  have h2 : 0 ≤ (p + a) * (q + b) := Int.mul_nonneg (by omega) (by omega)
  have h3 : 0 ≤ (p - a) * (q + b) := Int.mul_nonneg (by omega) (by omega)
  have h4 : 0 ≤ (p + a) * (q - b) := Int.mul_nonneg (by omega) (by omega)
  simp only [Int.sub_mul, Int.add_mul, Int.mul_sub, Int.mul_add] at h1 h2 h3 h4
  omega

theorem meets_none {P : Program} {f : FuncId} {fn : Func} {c : Code} {S : Sig} {fnD : List D → List D} (hf : P.funcs[f]? = some fn) (hb : fn.body = some c) (hname : (fn.name == "runtime.NumGoroutine") = false) (hlt : f < 20000 := by decide) : Meets P f S (fun _ => False) fnD := by
  refine MeetsFn.meets ⟨fun args w => ?_, fun w F vs ds _ _ h => h.elim⟩ hlt
  have h1 : fn.name ≠ "runtime.NumGoroutine" := by simpa using hname
  simp [callFunc, hf, h1, hb]

theorem round_next {Φ : FuncId → List D → List D} {pre : List D → Prop} {μ : List D → Nat} {L : LoopSig} {ρ vals : List D} (h : pre (setVars ρ L.wv vals) ∧ μ (setVars ρ L.wv vals) < μ ρ ∧ Φ L.key (setVars ρ L.wv vals) = Φ L.key ρ) : RoundOk Φ pre μ L ρ (.i (-1) :: vals) := by
  simp only [RoundOk, if_true]
  exact h
theorem round_exit {Φ : FuncId → List D → List D} {pre : List D → Prop} {μ : List D → Nat} {L : LoopSig} {ρ vals : List D} {c : Int} (hc : c ≠ -1) (h : Φ L.key ρ = .i c :: vals) : RoundOk Φ pre μ L ρ (.i c :: vals) := by
  simp only [RoundOk]
  rw [if_neg hc]
  exact h
end Go.RV
