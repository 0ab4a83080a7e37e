/-
  The trig package and its reference as functions of data: sines.
-/
import Derived.Test.YtpbjlhgdgggmkaaRvPlain
import Derived.Test.YtpbjlhgdgggmkaaRvFns05
namespace Go.Proofs.Ytpbjlhgdgggmkaa.rv
open Go.RV

def tab : List Int := [0, 175, 349, 523, 698, 872, 1045, 1219, 1392, 1564, 1736, 1908, 2079, 2250, 2419, 2588, 2756, 2924, 3090, 3256, 3420, 3584, 3746, 3907, 4067, 4226, 4384, 4540, 4695, 4848, 5000, 5150, 5299, 5446, 5592, 5736, 5878, 6018, 6157, 6293, 6428, 6561, 6691, 6820, 6947, 7071, 7193, 7314, 7431, 7547, 7660, 7771, 7880, 7986, 8090, 8192, 8290, 8387, 8480, 8572, 8660, 8746, 8829, 8910, 8988, 9063, 9135, 9205, 9272, 9336, 9397, 9455, 9511, 9563, 9613, 9659, 9703, 9744, 9781, 9816, 9848, 9877, 9903, 9925, 9945, 9962, 9976, 9986, 9994, 9998, 10000]
def tbl (n : Int) : Int := tab.getD n.toNat 0
theorem tbl_bd (n : Int) : 0 ≤ tbl n ∧ tbl n ≤ 10000 := by
  have h : ∀ x ∈ tab, 0 ≤ x ∧ x ≤ 10000 := by decide
  unfold tbl
  simp only [List.getD]
  cases hx : tab[n.toNat]? with
  | none => simp
  | some x => exact h x (List.mem_of_getElem? hx)
theorem tab_at {n : Int} (h0 : 0 ≤ n) (h1 : n < 91) : (tab.map D.i).getD n.toNat default = .i (tbl n) := by
  have hl : tab.length = 91 := rfl
  exact getD_map D.i tab n.toNat 0 (by omega)

def sn (d : Int) : Int := if 180 < d then -(tbl (min (d - 180) (360 - d))) else tbl (min d (180 - d))
theorem sn_bd (d : Int) : -10000 ≤ sn d ∧ sn d ≤ 10000 := by
  unfold sn
  split
  · have := tbl_bd (min (d - 180) (360 - d)); omega
  · have := tbl_bd (min d (180 - d)); omega

def snD : List D → List D
  | [.i d] => [.i (sn d)]
  | _ => []
def snPre (hi : Int) (ds : List D) : Prop := ∃ d, ds = [.i d] ∧ 0 ≤ d ∧ d ≤ hi

theorem fn24_eq : fn24 [] = tab.map D.i := by kernel_rfl

def F17 : FuncId → List D → List D := tabOf [(17, snD), (24, fn24)]
def P17 (p : List D → Prop) (f : FuncId) (ρ : List D) : Prop := if f = 17 then p ρ else True

theorem m17_of {p : List D → Prop} (h17 : Meets Try.prog 17 S17 p snD) {hi : Int} (hp : ∀ d, 0 ≤ d → d ≤ hi → 180 < d → p [.i (d - 180)]) (hhi : hi ≤ 360) : Meets Try.prog 17 S17 (snPre hi) snD := by
  refine meets_of_vt (pre := P17 p) (Φ := F17) mixed (sgOf_all (l := sg17) ?_) Try.func17 b17 n17 (loops_n 0 k17 fun k hk => by omega) e17 fun ds _ hd => ?_
  · intro e he
    simp only [sg17, List.mem_cons, List.not_mem_nil, or_false] at he
    rcases he with rfl | rfl
    · exact h17
    · exact m24
  · obtain ⟨d, rfl, h0, h1⟩ := hd
    have e17 : F17 17 = snD := rfl
    have e24 : F17 24 [] = tab.map D.i := fn24_eq
    have p17 : P17 p 17 = p := by funext; simp [P17]
    have p24 : ∀ x, P17 p 24 x := fun x => by simp [P17]
    have hw : IntKind.i64.wrap (d - 180) = d - 180 := w64 (by omega)
    by_cases hlt : 180 < d
    · have hbd := sn_bd (d - 180)
      have hneg : IntKind.i64.wrap (0 - sn (d - 180)) = - sn (d - 180) := by rw [w64 (by omega)]; omega
      have hs : -sn (d - 180) = sn d := by
        have h2 : ¬ 180 < d - 180 := by omega
        simp only [sn, hlt, h2, if_true, if_false]
        congr 2
        omega
      simp only [vt17, VT.ok, Nd.holds, X.outs, X.ds, X.d, Op1.ev, Op2.ev, takeD_zero, takeD_cons, List.cons_append, List.nil_append, List.getD_cons_zero, List.getD_cons_succ, D.int_i, D.bool_b, hlt, decide_true, if_true, hw, e17, snD, hneg, hs, p17]
      exact ⟨fun _ => hp d h0 h1 hlt, trivial⟩
    · have hw2 : IntKind.i64.wrap (180 - d) = 180 - d := w64 (by omega)
      have hm : min d (180 - d) ≤ 90 := by omega
      have hm0 : 0 ≤ min d (180 - d) := by omega
      have ht : takeD 91 (tab.map D.i) = tab.map D.i := by kernel_rfl
      have hs : sn d = tbl (min d (180 - d)) := by simp only [sn, hlt, if_false]
      have hT := tab_at hm0 (by omega)
      unfold vt17
      simp only [VT.ok, X.d, Op2.ev, List.getD_cons_zero, D.int_i, D.bool_b, hlt, decide_false, Bool.false_eq_true, if_false]
      refine ⟨fun _ => p24 _, ?_⟩
      have ho : X.outs F17 [D.i d] (.app 24 .nil 0) = tab.map D.i := e24
      rw [ho, ht]
      simp only [VT.ok, Nd.holds, X.d, Op2.ev, List.cons_append, List.getD_cons_zero, D.int_i, D.bool_b, hw2, imin, decide_eq_true_eq]
      refine ⟨fun _ => hm0, fun _ => by omega, ?_⟩
      have hv : ∀ x : X, X.ds F17 (D.i d :: ([] ++ tab.map D.i)) x = tab.map D.i → X.ds F17 (D.i d :: ([] ++ tab.map D.i)) (.cons (.nth x (.bin .min (.var 0) (.bin (.sub .i64) (.n 180) (.var 0)))) .nil) = snD [.i d] := by
        intro x hx
        simp only [X.ds, X.d, hx, Op2.ev, List.getD_cons_zero, D.int_i, hw2, imin, hT, snD, hs]
      exact hv _ (by kernel_rfl)

theorem m17a : Meets Try.prog 17 S17 (snPre 180) snD := m17_of (meets_none Try.func17 b17 n17) (hi := 180) (fun d h0 h1 h => by omega) (by omega)
theorem m17 : Meets Try.prog 17 S17 (snPre 359) snD := m17_of m17a (hi := 359) (fun d h0 h1 h => ⟨d - 180, rfl, by omega, by omega⟩) (by omega)

end Go.Proofs.Ytpbjlhgdgggmkaa.rv
