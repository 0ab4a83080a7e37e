/-
  layoutlaw03.BoxUnions over data: the law itself, joined.
-/
import Derived.Test.YteajmcpjcbjolaaRvBox13
namespace Go.Proofs.Yteajmcpjcbjolaa.rv
open Go.RV

theorem pre8_80 : preL8 10800 = pre80 := by funext ρ; simp [preL8]
theorem pre8_81 : preL8 10801 = pre81 := by funext ρ; simp [preL8]

theorem vq_none {xs : List (List D)} : insideAll xs (outOf (unionQ xs)) := union_inside xs

theorem uni_at (xs : List (List D)) (j : Nat) : (uni [.l xs]).getD j default = [D.i (outOf (unionQ xs)).1, .i (outOf (unionQ xs)).2.1, .i (outOf (unionQ xs)).2.2.1, .i (outOf (unionQ xs)).2.2.2].getD j default := rfl

theorem law8 : Meets Try.prog 8 S8 (fun _ => True) (fun _ => [.b true]) := by
  refine meets_of_vt (pre := preL8) mixed hM8 Try.func8 b8 n8 (loops_n 2 k8 fun k hk => ?_) e8 fun ds hf _ => ?_
  · match k, hk with
    | 0, _ => exact loop_this lf8_0 (loopM80 rfl pre8_80 hM8)
    | 1, _ => exact loop_this lf8_1 (loopM81 rfl rfl rfl (fun a => by simp [preL8]) (fun a => by simp [preL8]) pre8_81 hM8)
  match ds, hf.flat with
  | [d0, d1, d2, d3, d4, d5], ⟨h0, h1, h2, h3, h4, h5, _⟩ =>
    obtain ⟨xs, rfl, hm, hr⟩ := wf_sl h0
    obtain ⟨a, rfl, _⟩ := wf_i64 h1
    obtain ⟨b, rfl, _⟩ := wf_i64 h2
    obtain ⟨c, rfl, _⟩ := wf_i64 h3
    obtain ⟨d, rfl, _⟩ := wf_i64 h4
    obtain ⟨k, rfl, _⟩ := wf_i64 h5
    have hrow : rowsOk xs := ⟨hm, hr⟩
    have hrev : rowsOk xs.reverse := ⟨by simpa using hm, fun r hr' => hr r (by simpa using hr')⟩
    have hnil : rowsOk [] := ⟨by simp, fun r h => by cases h⟩
    have e27 : F8 27 = uni := rfl
    have e28 : F8 28 = uni := rfl
    have e29 : F8 29 [.i a, .i b, .i c, .i d, .i k] = infl a b c d k := fn29_eq ..
    have e30 : F8 30 [.i a, .i b, .i c, .i d, .i k] = infl a b c d k := fn30_eq ..
    have e80 : F8 10800 = loop80 := rfl
    have e81 : F8 10801 = loop81 := rfl
    have e15 : F8 15 [] = [.b true] := fn15_eq
    have p15 : ∀ x, preL8 15 x := fun x => by simp [preL8]
    have p29 : ∀ x, preL8 29 x := fun x => by simp [preL8]
    have p30 : ∀ x, preL8 30 x := fun x => by simp [preL8]
    have p27 : preL8 27 = uniPre := by funext x; simp [preL8]
    have p28 : preL8 28 = uniPre := by funext x; simp [preL8]
    by_cases hlen : 40 < xs.length
    · have hlen' : (40 : Int) < xs.length := by omega
      simp only [vt8, VT.ok, Nd.holds, X.ds, X.d, Op1.ev, Op2.ev, List.getD_cons_zero, D.int_i, D.bool_b, D.lst_l, hlen', decide_true, if_true, e15]
      exact ⟨fun _ => p15 _, trivial⟩
    have hlen' : ¬ (40 : Int) < xs.length := by omega
    have ew : IntKind.i64.wrap ((xs.length : Int) - 1) = (xs.length : Int) - 1 := by rw [wrap_i64]; omega
    have hlo : loop80 [.l xs, .i ((xs.length : Int) - 1), .i a, .i b, .i c, .i d, .l []] = [.i 0, .i (-1), .l xs.reverse] := by
      have : ((xs.length : Int) - 1 + 1).toNat = xs.length := by omega
      simp only [loop80, this, List.take_length, List.nil_append]
    have hu : uni [.l xs.reverse] = uni [.l xs] := by simp only [uni, union_reverse]
    have hun : uni [.l []] = [.i 0, .i 0, .i 0, .i 0] := rfl
    generalize hq : outOf (unionQ xs) = q at *
    have hux : uni [.l xs] = [.i q.1, .i q.2.1, .i q.2.2.1, .i q.2.2.2] := by simp only [uni, hq]
    have hin : insideAll xs q := by rw [← hq]; exact union_inside xs
    have hl81 : loop81 [.l xs, .b false, .i 0, .i a, .i b, .i c, .i d, .l xs.reverse, .i q.1, .i q.2.1, .i q.2.2.1, .i q.2.2.2] = [.i 1, .b false, .i (xs.length : Int)] := rfl
    simp only [vt8, VT.ok, Nd.holds, X.ds, X.d, Op1.ev, Op2.ev, List.getD_cons_zero, List.getD_cons_succ, D.int_i, D.bool_b, D.lst_l, hlen', decide_false, Bool.false_eq_true, if_false, ew, e27, e28, e29, e30, e80, e81, e15, hlo, hu, hux, hun, hl81, beq_self_eq_true, if_true, Bool.not_true, p27, p28]
    have u1 : uniPre [.l xs] := ⟨xs, rfl, hrow⟩
    have u2 : uniPre [.l xs.reverse] := ⟨_, rfl, hrev⟩
    have u3 : uniPre [.l []] := ⟨_, rfl, hnil⟩
    have v1 : preL8 10800 [.l xs, .i ((xs.length : Int) - 1), .i a, .i b, .i c, .i d, .l []] := by
      rw [pre8_80]
      exact ⟨xs, _, .i a, .i b, .i c, .i d, [], rfl, hrow, by omega, by omega, by simp; omega⟩
    have v2 : preL8 10801 [.l xs, .b false, .i 0, .i a, .i b, .i c, .i d, .l xs.reverse, .i q.1, .i q.2.1, .i q.2.2.1, .i q.2.2.2] := by
      rw [pre8_81]
      exact ⟨xs, _, 0, .i a, .i b, .i c, .i d, _, q.1, q.2.1, q.2.2.1, q.2.2.2, rfl, hrow, by omega, by omega, hin⟩
    simp [u1, u2, u3, v1, v2, p15, p29, p30]
end Go.Proofs.Yteajmcpjcbjolaa.rv
