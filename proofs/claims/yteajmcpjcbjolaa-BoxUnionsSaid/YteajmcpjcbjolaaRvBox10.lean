/-
  layoutlaw03.BoxUnions over data: the law.
-/
import Derived.Test.YteajmcpjcbjolaaRvBox9
namespace Go.Proofs.Yteajmcpjcbjolaa.rv
open Go.RV

def loop80 : List D → List D
  | [.l xs, .i i, _, _, _, _, .l acc] => [.i 0, .i (-1), .l (acc ++ (xs.take (i + 1).toNat).reverse)]
  | _ => []
def pre80 (ρ : List D) : Prop := ∃ xs i t0 t1 t2 t3 acc, ρ = [.l xs, .i i, t0, t1, t2, t3, .l acc] ∧ rowsOk xs ∧ -1 ≤ i ∧ i < xs.length ∧ (acc.length : Int) + (i + 1) ≤ 40

/-- every valid box of the list, from place i on, lies in u -/
def allIn (xs : List (List D)) (i : Nat) (u : Q) : Bool := (xs.drop i).all fun r => !vq (qd r) || ins (qd r).1 (qd r).2.1 (qd r).2.2.1 (qd r).2.2.2 u.1 u.2.1 u.2.2.1 u.2.2.2

def pre8 (f : FuncId) (ρ : List D) : Prop := if f = 10800 then pre80 ρ else if f = 27 then uniPre ρ else if f = 28 then uniPre ρ else False
def F8a : FuncId → List D → List D := tabOf [(10800, loop80)]

theorem round_next {Φ : FuncId → List D → List D} {pre : List D → Prop} {μ : List D → Nat} {L : LoopSig} {ρ vals : List D} (h : pre (setVars ρ L.wv vals) ∧ μ (setVars ρ L.wv vals) < μ ρ ∧ Φ L.key (setVars ρ L.wv vals) = Φ L.key ρ) : RoundOk Φ pre μ L ρ (.i (-1) :: vals) := by
  simp only [RoundOk, if_true]
  exact h
theorem round_exit {Φ : FuncId → List D → List D} {pre : List D → Prop} {μ : List D → Nat} {L : LoopSig} {ρ vals : List D} {c : Int} (hc : c ≠ -1) (h : Φ L.key ρ = .i c :: vals) : RoundOk Φ pre μ L ρ (.i c :: vals) := by
  simp only [RoundOk]
  rw [if_neg hc]
  exact h

theorem loopM80 {Φ : FuncId → List D → List D} {pre : FuncId → List D → Prop} (hΦ : Φ 10800 = loop80) (hp : pre 10800 = pre80) (hM : ∀ f S, sgOf sg8 f = some S → Meets Try.prog f S (pre f) (Φ f)) : LoopMeets Try.prog Φ (pre L8_0.key) L8_0 lb8_0 := by
  refine loop_meets (pre := pre) mixed hM (loops_n 0 lk8_0 fun k hk => by omega) L8_0 (fun ρ => ((ρ.getD 1 default).int + 1).toNat) le8_0 fun ρ _ hpp => ?_
  have hkey : pre L8_0.key = pre80 := hp
  rw [hkey] at hpp
  obtain ⟨xs, i, t0, t1, t2, t3, acc, rfl, hr, h0, h1, h2⟩ := hpp
  simp only [rt8_0, VT.ok, Nd.holds, X.ds, X.d, Op1.ev, Op2.ev, List.getD_cons_zero, List.getD_cons_succ, D.int_i, D.bool_b, D.lst_l, decide_eq_true_eq]
  split
  · rename_i hlt
    have hi : i.toNat < xs.length := by omega
    obtain ⟨p, q, u, v, hg, hd⟩ := rows_at hr hi
    have ew : IntKind.i64.wrap (i - 1) = i - 1 := by rw [wrap_i64]; omega
    simp only [hg, List.getD_cons_zero, List.getD_cons_succ, ew]
    refine ⟨fun _ => hlt, fun _ => h1, fun _ => ?_, ?_⟩
    · simp only [List.length_append, List.length_cons, List.length_nil]; omega
    · have hx : xs[i.toNat] = [.i p, .i q, .i u, .i v] := by simpa [List.getD, hi] using hg
      have ht : xs.take (i + 1).toNat = xs.take i.toNat ++ [[.i p, .i q, .i u, .i v]] := by
        have : (i + 1).toNat = i.toNat + 1 := by omega
        rw [this, List.take_succ_eq_append_getElem hi, hx]
      have hz : (i - 1 + 1).toNat = i.toNat := by omega
      refine round_next ?_
      show pre L8_0.key [.l xs, .i (i - 1), t0, t1, t2, t3, .l (acc ++ [[.i p, .i q, .i u, .i v]])] ∧ (i - 1 + 1).toNat < (i + 1).toNat ∧ Φ 10800 [.l xs, .i (i - 1), t0, t1, t2, t3, .l (acc ++ [[.i p, .i q, .i u, .i v]])] = Φ 10800 [.l xs, .i i, t0, t1, t2, t3, .l acc]
      rw [hkey, hΦ]
      refine ⟨⟨xs, i - 1, t0, t1, t2, t3, _, rfl, hr, by omega, by omega, ?_⟩, by omega, ?_⟩
      · simp only [List.length_append, List.length_cons, List.length_nil]; omega
      · simp only [loop80, hz, ht, List.reverse_append, List.reverse_cons, List.reverse_nil, List.nil_append, List.append_assoc, List.cons_append]
  · rename_i hlt
    have : i = -1 := by omega
    subst this
    refine round_exit (by omega) ?_
    show Φ 10800 [.l xs, .i (-1), t0, t1, t2, t3, .l acc] = [.i 0, .i (-1), .l acc]
    rw [hΦ]
    simp [loop80]
end Go.Proofs.Yteajmcpjcbjolaa.rv
