/-
  The box package and its reference as functions of data: Hits.
-/
import Derived.Test.YteajmcpjcbjolaaRvBox3
namespace Go.Proofs.Yteajmcpjcbjolaa.rv
open Go.RV

theorem meets_none {P : Program} {f : FuncId} {fn : Func} {c : Code} {S : Sig} {fnD : List D → List D} (hf : P.funcs[f]? = some fn) (hb : fn.body = some c) (hname : (fn.name == "runtime.NumGoroutine") = false) : Meets P f S (fun _ => False) fnD := by
  refine ⟨fun args w => ?_, fun w F vs ds _ _ h => h.elim⟩
  have h1 : fn.name ≠ "runtime.NumGoroutine" := by simpa using hname
  simp [callFunc, hf, h1, hb]

def g34 : List D → List D
  | [.i a, .i d, .i lo, .i hi] => if d < 0 then [.i (a - hi), .i (a - lo), .i (-d), .b true] else [.i (lo - a), .i (hi - a), .i d, .b (decide (0 < d) || (decide (lo < a) && decide (a < hi)))]
  | _ => []
def bnd34 (a d lo hi : Int) : Prop := (-268435456 ≤ a ∧ a ≤ 268435456) ∧ (-536870912 ≤ d ∧ d ≤ 536870912) ∧ (-268435456 ≤ lo ∧ lo ≤ 268435456) ∧ (-268435456 ≤ hi ∧ hi ≤ 268435456)
def pos34 (ds : List D) : Prop := ∃ a d lo hi, ds = [.i a, .i d, .i lo, .i hi] ∧ bnd34 a d lo hi ∧ 0 ≤ d
def any34 (ds : List D) : Prop := ∃ a d lo hi, ds = [.i a, .i d, .i lo, .i hi] ∧ bnd34 a d lo hi

theorem m34a : Meets Try.prog 34 S34 pos34 g34 := by
  refine meets_of_vt (pre := fun _ _ => False) (Φ := fun _ _ => []) mixed (sgOf_all (pre := fun _ _ => False) (Φ := fun _ _ => []) (l := sg34) ?_) Try.func34 b34 n34 (loops_n 0 k34 fun k hk => by omega) e34 fun ds _ hp => ?_
  · intro e he
    simp only [sg34, List.mem_cons, List.not_mem_nil, or_false] at he
    subst he
    exact meets_none Try.func34 b34 n34
  · obtain ⟨a, d, lo, hi, rfl, hb, hd⟩ := hp
    simp only [bnd34] at hb
    have hn : ¬ d < 0 := by omega
    have e1 : IntKind.i64.wrap (lo - a) = lo - a := by rw [wrap_i64]; omega
    have e2 : IntKind.i64.wrap (hi - a) = hi - a := by rw [wrap_i64]; omega
    simp only [vt34, VT.ok, X.ds, X.d, Op2.ev, List.getD_cons_zero, List.getD_cons_succ, D.int_i, D.bool_b, hn, decide_false, Bool.false_eq_true, if_false, e1, e2, ite_and, ite_or, g34]

theorem m34 : Meets Try.prog 34 S34 any34 g34 := by
  refine meets_of_vt (pre := fun _ => pos34) (Φ := fun _ => g34) mixed (sgOf_all (pre := fun _ => pos34) (Φ := fun _ => g34) (l := sg34) ?_) Try.func34 b34 n34 (loops_n 0 k34 fun k hk => by omega) e34 fun ds _ hp => ?_
  · intro e he
    simp only [sg34, List.mem_cons, List.not_mem_nil, or_false] at he
    subst he
    exact m34a
  · obtain ⟨a, d, lo, hi, rfl, hb⟩ := hp
    have hb' := hb
    simp only [bnd34] at hb
    have e1 : IntKind.i64.wrap (lo - a) = lo - a := by rw [wrap_i64]; omega
    have e2 : IntKind.i64.wrap (hi - a) = hi - a := by rw [wrap_i64]; omega
    have f1 : IntKind.i64.wrap (0 - a) = -a := by rw [wrap_i64]; omega
    have f2 : IntKind.i64.wrap (0 - d) = -d := by rw [wrap_i64]; omega
    have f3 : IntKind.i64.wrap (0 - lo) = -lo := by rw [wrap_i64]; omega
    have f4 : IntKind.i64.wrap (0 - hi) = -hi := by rw [wrap_i64]; omega
    by_cases hn : d < 0
    · have h1 : ¬ -d < 0 := by omega
      have h2 : (0 : Int) < -d := by omega
      simp only [vt34, VT.ok, Nd.holds, X.ds, X.d, Op1.ev, Op2.ev, List.getD_cons_zero, List.getD_cons_succ, D.int_i, D.bool_b, hn, decide_true, if_true, f1, f2, f3, f4, g34, h1, h2, if_false, Bool.true_or]
      refine ⟨fun _ => ⟨-a, -d, -hi, -lo, rfl, by unfold bnd34; omega, by omega⟩, ?_⟩
      have g1 : -hi - -a = a - hi := by omega
      have g2 : -lo - -a = a - lo := by omega
      rw [g1, g2]
    · simp only [vt34, VT.ok, X.ds, X.d, Op2.ev, List.getD_cons_zero, List.getD_cons_succ, D.int_i, D.bool_b, hn, decide_false, Bool.false_eq_true, if_false, e1, e2, ite_and, ite_or, g34]
end Go.Proofs.Yteajmcpjcbjolaa.rv
