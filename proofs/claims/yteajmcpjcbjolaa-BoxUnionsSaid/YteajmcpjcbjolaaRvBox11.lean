/-
  layoutlaw03.BoxUnions over data: the loop that looks whether each valid box lies in the union.
-/
import Derived.Test.YteajmcpjcbjolaaRvBox10
namespace Go.Proofs.Yteajmcpjcbjolaa.rv
open Go.RV

def loop81 : List D → List D
  | [.l xs, v, .i _, _, _, _, _, _, _, _, _, _] => [.i 1, v, .i (xs.length : Int)]
  | _ => []
def insideAll (xs : List (List D)) (u : Q) : Prop := ∀ r ∈ xs, vq (qd r) = true → ins (qd r).1 (qd r).2.1 (qd r).2.2.1 (qd r).2.2.2 u.1 u.2.1 u.2.2.1 u.2.2.2 = true
def pre81 (ρ : List D) : Prop := ∃ xs v i t0 t1 t2 t3 t4 a b c d, ρ = [.l xs, v, .i i, t0, t1, t2, t3, t4, .i a, .i b, .i c, .i d] ∧ rowsOk xs ∧ 0 ≤ i ∧ i ≤ xs.length ∧ insideAll xs (a, b, c, d)

theorem loopM81 {Φ : FuncId → List D → List D} {pre : FuncId → List D → Prop} (hΦ : Φ 10801 = loop81) (h9 : Φ 9 = fn9) (h24 : Φ 24 = fn24) (p9 : ∀ a, pre 9 a) (p24 : ∀ a, pre 24 a) (hp : pre 10801 = pre81) (hM : ∀ f S, sgOf sg8 f = some S → Meets Try.prog f S (pre f) (Φ f)) : LoopMeets Try.prog Φ (pre L8_1.key) L8_1 lb8_1 := by
  refine loop_meets (pre := pre) mixed hM (loops_n 0 lk8_1 fun k hk => by omega) L8_1 (fun ρ => (((ρ.getD 0 default).lst.length : Int) - (ρ.getD 2 default).int).toNat) le8_1 fun ρ _ hpp => ?_
  have hkey : pre L8_1.key = pre81 := hp
  rw [hkey] at hpp
  obtain ⟨xs, v0, i, t0, t1, t2, t3, t4, a, b, c, d, rfl, hr, h0, h1, hin⟩ := hpp
  have hml : (xs.length : Int) ≤ 9223372036854775807 := by have := hr.1; simp only [maxLen] at this; omega
  simp only [rt8_1, VT.ok, Nd.holds, X.ds, X.d, Op1.ev, Op2.ev, List.getD_cons_zero, List.getD_cons_succ, D.int_i, D.bool_b, D.lst_l, decide_eq_true_eq, h9, h24]
  split
  · rename_i hlt
    have hi : i.toNat < xs.length := by omega
    obtain ⟨p, q, u, v, hg, hd⟩ := rows_at hr hi
    have ew : IntKind.i64.wrap (i + 1) = i + 1 := by rw [wrap_i64]; omega
    have hx : xs[i.toNat] = [.i p, .i q, .i u, .i v] := by simpa [List.getD, hi] using hg
    have hh := hin _ (List.getElem_mem hi)
    rw [hx] at hh
    simp only [hg, List.getD_cons_zero, List.getD_cons_succ, ew, fn9_eq, fn24_eq, D.bool_b]
    refine ⟨fun _ => h0, fun _ => hlt, fun _ => p9 _, fun _ => h0, fun _ => hlt, fun _ => p24 _, ?_⟩
    have hno : ¬ (if bv p q u v = true then D.b (!ins p q u v a b c d) else D.b false).bool = true := by
      split
      · rename_i hv
        have : ins p q u v a b c d = true := hh hv
        rw [this]; simp
      · simp
    rw [if_neg hno]
    refine round_next ?_
    show pre L8_1.key [.l xs, v0, .i (i + 1), t0, t1, t2, t3, t4, .i a, .i b, .i c, .i d] ∧ ((xs.length : Int) - (i + 1)).toNat < ((xs.length : Int) - i).toNat ∧ Φ 10801 [.l xs, v0, .i (i + 1), t0, t1, t2, t3, t4, .i a, .i b, .i c, .i d] = Φ 10801 [.l xs, v0, .i i, t0, t1, t2, t3, t4, .i a, .i b, .i c, .i d]
    rw [hkey, hΦ]
    exact ⟨⟨xs, v0, i + 1, t0, t1, t2, t3, t4, a, b, c, d, rfl, hr, by omega, by omega, hin⟩, by omega, rfl⟩
  · rename_i hlt
    have hi : i = xs.length := by omega
    subst hi
    refine round_exit (by omega) ?_
    show Φ 10801 [.l xs, v0, .i (xs.length : Int), t0, t1, t2, t3, t4, .i a, .i b, .i c, .i d] = [.i 1, v0, .i (xs.length : Int)]
    rw [hΦ]
    rfl
end Go.Proofs.Yteajmcpjcbjolaa.rv
