/-
  Packing: the loops and functions as functions of data: the tables; checks, shelves, extents.
-/
import Derived.Test.YtnfndnaddnoiaaaRvPack1
namespace Go.Proofs.Ytnfndnaddnoiaaa.rv
open Go.RV

def lp18 : List D → List D
  | [.i v, .l xs, .i _, .i i] => scanN (badAt (xs.map decP)) (fun j => [.i 0, .i 1, .i (j : Int)]) (fun j => [.i 1, .i v, .i (j : Int)]) (xs.length - i.toNat) i.toNat
  | _ => []
def pr18 (ρ : List D) : Prop := ∃ (v : Int) (l : List Pt) (j : Nat), ρ = [.i v, .l (l.map encP), .i (l.length : Int), .i (j : Int)] ∧ j ≤ l.length ∧ l.length ≤ maxLen
def lp20 : List D → List D
  | [.l xs, .i v, .i i] => scanN (badAt (xs.map decP)) (fun j => [.i 0, .i 1, .i (j : Int)]) (fun j => [.i 1, .i v, .i (j : Int)]) (xs.length - i.toNat) i.toNat
  | _ => []
def pr20 (ρ : List D) : Prop := ∃ (v : Int) (l : List Pt) (j : Nat), ρ = [.l (l.map encP), .i v, .i (j : Int)] ∧ j ≤ l.length ∧ l.length ≤ maxLen
def chkD : List D → List D
  | [.l xs, .i w, .i g] => [.i (cerr (xs.map decP) w g)]
  | _ => []
def chkPre (ds : List D) : Prop := ∃ (l : List Pt) (w g : Int), ds = [.l (l.map encP), .i w, .i g] ∧ l.length ≤ maxLen

def shOut (n : Nat) (r : Int × Int × Int × List Bx) : List D := [.i 0, .i r.1, .i r.2.1, .i r.2.2.1, .i (n : Int), .l (r.2.2.2.map encQ)]
def shInv (l : List Pt) (g x y low : Int) (acc : List Bx) (j : Nat) : Prop := szOk l ∧ l.length ≤ 64 ∧ (0 ≤ g ∧ g ≤ 1048576) ∧ j ≤ l.length ∧ (0 ≤ x ∧ x ≤ j * 2097152) ∧ (0 ≤ y ∧ y ≤ j * 2097152) ∧ (0 ≤ low ∧ low ≤ j * 2097152) ∧ acc.length = j
def lp19 : List D → List D
  | [.i w, .i g, .i x, .i y, .i low, .l xs, .i _, .i i, .l acc] => shOut xs.length (shelF w g (i == 0) x y low (acc.map decQ) ((xs.map decP).drop i.toNat))
  | _ => []
def pr19 (ρ : List D) : Prop := ∃ (w g x y low : Int) (l : List Pt) (j : Nat) (acc : List Bx), ρ = [.i w, .i g, .i x, .i y, .i low, .l (l.map encP), .i (l.length : Int), .i (j : Int), .l (acc.map encQ)] ∧ shInv l g x y low acc j ∧ (-9223372036854775808 ≤ w ∧ w ≤ 9223372036854775807)
def lp10 : List D → List D
  | [.l xs, .i w, .i g, .i x, .i y, .i low, .i i, .l acc] => shOut xs.length (shelF w g (i == 0) x y low (acc.map decQ) ((xs.map decP).drop i.toNat))
  | _ => []
def pr10 (ρ : List D) : Prop := ∃ (w g x y low : Int) (l : List Pt) (j : Nat) (acc : List Bx), ρ = [.l (l.map encP), .i w, .i g, .i x, .i y, .i low, .i (j : Int), .l (acc.map encQ)] ∧ shInv l g x y low acc j ∧ (-9223372036854775808 ≤ w ∧ w ≤ 9223372036854775807)
def shD : List D → List D
  | [.l xs, .i w, .i g] => [.l ((shel w g (xs.map decP)).map encQ)]
  | _ => []
def shPre (ds : List D) : Prop := ∃ (l : List Pt) (w g : Int), ds = [.l (l.map encP), .i w, .i g] ∧ szOk l ∧ l.length ≤ 64 ∧ (0 ≤ g ∧ g ≤ 1048576) ∧ (-9223372036854775808 ≤ w ∧ w ≤ 9223372036854775807)
/-- the exported function: boxes, or none and an error -/
def shelvesD : List D → List D
  | [.l xs, .i w, .i g] => [.l ((if cerr (xs.map decP) w g = 0 then shel w g (xs.map decP) else []).map encQ), .i (cerr (xs.map decP) w g)]
  | _ => []

def lp25 : List D → List D
  | [.i n, .l xs, .i _, .i i] => [.i 0, .i (((xs.map decQ).drop i.toNat).foldl ext1 n), .i (xs.length : Int)]
  | _ => []
def pr25 (ρ : List D) : Prop := ∃ (n : Int) (l : List Bx) (j : Nat), ρ = [.i n, .l (l.map encQ), .i (l.length : Int), .i (j : Int)] ∧ j ≤ l.length ∧ l.length ≤ maxLen
def lp17 : List D → List D
  | [.l xs, .i n, .i i] => [.i 0, .i (((xs.map decQ).drop i.toNat).foldl ext1 n), .i (xs.length : Int)]
  | _ => []
def pr17 (ρ : List D) : Prop := ∃ (n : Int) (l : List Bx) (j : Nat), ρ = [.l (l.map encQ), .i n, .i (j : Int)] ∧ j ≤ l.length ∧ l.length ≤ maxLen
def extD : List D → List D
  | [.l xs] => [.i (ext (xs.map decQ))]
  | _ => []
def extPre (ds : List D) : Prop := ∃ l : List Bx, ds = [.l (l.map encQ)] ∧ l.length ≤ maxLen

def lp11 : List D → List D
  | [.l xs, _, v, .i _] => [.i 1, v, .i (xs.length : Int)]
  | _ => []
def pr11 (ρ : List D) : Prop := ∃ (l : List Bx) (v : D) (j : Nat), ρ = [.l (l.map encQ), .l (l.map encQ), v, .i (j : Int)] ∧ j ≤ l.length ∧ l.length ≤ maxLen
def samePre (ds : List D) : Prop := ∃ l : List Bx, ds = [.l (l.map encQ), .l (l.map encQ)] ∧ l.length ≤ maxLen
def one (_ : List D) : List D := [.b true]

def beInv (l : List Pt) (g w : Int) (j : Nat) (b : List Bx) : Prop := szOk l ∧ l.length ≤ 64 ∧ (0 ≤ g ∧ g ≤ 1048576) ∧ j ≤ l.length ∧ (-1048576 ≤ w ∧ w ≤ j * 2097152) ∧ b.length ≤ 64
def lp14 : List D → List D
  | [.l xs, .i g, .l b, .i w, .l _, .i n, .i i] => let r := bestF (xs.map decP) g (b.map decQ) w i.toNat ((xs.map decP).drop i.toNat); [.i 0, .l (r.1.map encQ), .i r.2, .i n]
  | _ => []
def pr14 (ρ : List D) : Prop := ∃ (l : List Pt) (g w : Int) (j : Nat) (b : List Bx), ρ = [.l (l.map encP), .i g, .l (b.map encQ), .i w, .l (l.map encP), .i (l.length : Int), .i (j : Int)] ∧ beInv l g w j b
def lp15 : List D → List D
  | [.l xs, .i g, .l b, .i w, .i i] => let r := bestF (xs.map decP) g (b.map decQ) (if i = 0 then w - g else w) i.toNat ((xs.map decP).drop i.toNat); [.i 0, .l (r.1.map encQ), .i (if xs.length = i.toNat then w else r.2), .i (xs.length : Int)]
  | _ => []
def pr15 (ρ : List D) : Prop := ∃ (l : List Pt) (g w : Int) (j : Nat) (b : List Bx), ρ = [.l (l.map encP), .i g, .l (b.map encQ), .i w, .i (j : Int)] ∧ beInv l g w j b ∧ (j = 0 → w = 0) ∧ 0 ≤ w
def bestD : List D → List D
  | [.l xs, .i g] => [.l ((if cerr (xs.map decP) 0 g = 0 then best (xs.map decP) g else []).map encQ), .i (cerr (xs.map decP) 0 g)]
  | _ => []
def bestPre (ds : List D) : Prop := ∃ (l : List Pt) (g : Int), ds = [.l (l.map encP), .i g] ∧ l.length ≤ maxLen

def lpNear (v : D) (b : List Bx) (wide : Bx) (i : Nat) : List D := scanN (nearAt b wide) (fun j => [.i 0, .b false, .i (j : Int)]) (fun j => [.i 1, v, .i (j : Int)]) (b.length - i) i
def lp12i : List D → List D
  | [v, .l xs, .i _, .i i, .i a, .i b, .i c, .i d] => lpNear v (xs.map decQ) (a, b, c, d) i.toNat
  | _ => []
def pr12i (ρ : List D) : Prop := ∃ (v : D) (l : List Bx) (j : Nat) (q : Bx), ρ = [v, .l (l.map encQ), .i (l.length : Int), .i (j : Int), .i q.1, .i q.2.1, .i q.2.2.1, .i q.2.2.2] ∧ j ≤ l.length ∧ l.length ≤ maxLen
def lp13i : List D → List D
  | [.l xs, .i g, v, .i k, .i i] => lpNear v ((xs.map decQ).take k.toNat) (infl ((xs.map decQ).getD k.toNat q0) g) i.toNat
  | _ => []
def pr13i (ρ : List D) : Prop := ∃ (g : Int) (v : D) (l : List Bx) (k j : Nat), ρ = [.l (l.map encQ), .i g, v, .i (k : Int), .i (j : Int)] ∧ k < l.length ∧ j ≤ k ∧ l.length ≤ maxLen
def lpDis (g : Int) (v : D) (b : List Bx) (i : Nat) : List D := scanN (nearAny b g) (fun j => [.i 0, .b false, .i (j : Int)]) (fun j => [.i 1, v, .i (j : Int)]) (b.length - i) i
def lp12 : List D → List D
  | [.l xs, .i g, v, .l _, .i _, .i i] => lpDis g v (xs.map decQ) i.toNat
  | _ => []
def pr12 (ρ : List D) : Prop := ∃ (g : Int) (v : D) (l : List Bx) (j : Nat), ρ = [.l (l.map encQ), .i g, v, .l (l.map encQ), .i (l.length : Int), .i (j : Int)] ∧ j ≤ l.length ∧ l.length ≤ maxLen
def lp13 : List D → List D
  | [.l xs, .i g, v, .i i] => lpDis g v (xs.map decQ) i.toNat
  | _ => []
def pr13 (ρ : List D) : Prop := ∃ (g : Int) (v : D) (l : List Bx) (j : Nat), ρ = [.l (l.map encQ), .i g, v, .i (j : Int)] ∧ j ≤ l.length ∧ l.length ≤ maxLen
def disD : List D → List D
  | [.l xs, .i g] => [.b (disj (xs.map decQ) g)]
  | _ => []
def disPre (ds : List D) : Prop := ∃ (l : List Bx) (g : Int), ds = [.l (l.map encQ), .i g] ∧ l.length ≤ maxLen

def F : FuncId → List D → List D := tabOf [(8, one), (9, shelvesD), (10, shelvesD), (11, one), (12, disD), (13, disD), (14, bestD), (15, bestD), (16, fn16), (17, extD), (18, chkD), (19, shD), (20, chkD), (21, fn21), (22, fn22), (23, fn23), (24, fn24), (25, extD),
  (11800, lp18), (12000, lp20), (11900, lp19), (11000, lp10), (12500, lp25), (11700, lp17), (11100, lp11), (11400, lp14), (11500, lp15), (11200, lp12i), (11201, lp12), (11300, lp13i), (11301, lp13)]
def R : FuncId → List D → Prop := tabP [(9, chkPre), (10, chkPre), (11, samePre), (12, disPre), (13, disPre), (14, bestPre), (15, bestPre), (17, extPre), (18, chkPre), (19, shPre), (20, chkPre), (25, extPre),
  (11800, pr18), (12000, pr20), (11900, pr19), (11000, pr10), (12500, pr25), (11700, pr17), (11100, pr11), (11400, pr14), (11500, pr15), (11200, pr12i), (11201, pr12), (11300, pr13i), (11301, pr13)]

/-! ### checks -/
theorem hM0 {l : List (FuncId × Sig)} (h : l = []) : ∀ f S, sgOf l f = some S → Meets Try.prog f S (R f) (F f) := by subst h; exact sgOf_all (fun e he => by cases he)

theorem loopM18 : LoopMeets Try.prog F (R L18_0.key) L18_0 lb18_0 := by
  refine loop_meets (pre := R) mixed (hM0 (l := sg18) rfl) (loops_n 0 lk18_0 fun k hk => by omega) L18_0 (fun ρ => ((ρ.getD 2 default).int - (ρ.getD 3 default).int).toNat) le18_0 fun ρ _ hp => ?_
  obtain ⟨v, l, j, rfl, hj, hm⟩ : pr18 ρ := hp
  rw [maxLen_val] at hm
  have d0 : decide ((0 : Int) ≤ (j : Int)) = true := decide_eq_true (by omega)
  by_cases hlt : j < l.length
  · have d1 : decide ((j : Int) < (l.length : Int)) = true := decide_eq_true (by omega)
    have hg : (l.map encP).getD j [] = encP (l.getD j p0) := row_get p0 hlt
    have hw : IntKind.i64.wrap ((j : Int) + 1) = ((j + 1 : Nat) : Int) := nat_wrap (by omega)
    simp only [rt18_0, VT.ok, Nd.holds, X.ds, X.d, Op1.ev, Op2.ev, List.getD_cons_zero, List.getD_cons_succ, D.int_i, D.bool_b, D.lst_l, ite_b, ite_or, imin, imax, Int.toNat_natCast, List.length_map, if_true, implies_true, true_and, d0, d1, hg, encP, hw]
    show if badAt l j = true then _ else _
    split
    · rename_i hb
      refine round_exit (by omega) ?_
      show lp18 [.i v, .l (l.map encP), .i (l.length : Int), .i (j : Int)] = [.i 0, .i 1, .i (j : Int)]
      simp only [lp18, map_decP, List.length_map, Int.toNat_natCast]
      exact scan_hit hlt hb
    · rename_i hb
      refine round_next ⟨⟨v, l, j + 1, rfl, by omega, hm⟩, ?_, ?_⟩
      · show ((l.length : Int) - ((j + 1 : Nat) : Int)).toNat < ((l.length : Int) - (j : Int)).toNat
        omega
      · show lp18 [.i v, .l (l.map encP), .i (l.length : Int), .i ((j + 1 : Nat) : Int)] = lp18 [.i v, .l (l.map encP), .i (l.length : Int), .i (j : Int)]
        simp only [lp18, map_decP, List.length_map, Int.toNat_natCast]
        exact scan_next hlt (by simpa using hb)
  · have hj : j = l.length := by omega
    subst hj
    have d1 : decide ((l.length : Int) < (l.length : Int)) = false := decide_eq_false (by omega)
    simp only [rt18_0, VT.ok, Nd.holds, X.ds, X.d, Op1.ev, Op2.ev, List.getD_cons_zero, List.getD_cons_succ, D.int_i, D.bool_b, D.lst_l, ite_b, ite_or, imin, imax, Int.toNat_natCast, List.length_map, Bool.false_eq_true, if_false, d1]
    refine round_exit (by omega) ?_
    show lp18 [.i v, .l (l.map encP), .i (l.length : Int), .i (l.length : Int)] = [.i 1, .i v, .i (l.length : Int)]
    simp only [lp18, map_decP, List.length_map, Int.toNat_natCast]
    exact scan_end

theorem arg_cond (w g : Int) : (decide (w < 0) || decide (268435456 < w) || decide (g < 0) || decide (1048576 < g)) = argBad w g := rfl

theorem cerr_split {w g : Int} {n : Nat} : (if ((1 : Int) == 0) = true then ([D.i 0] : List D) = [D.i (if argBad w g = true then 1 else if 64 < n then 2 else 0)] else if argBad w g = true then [D.i 1] = [D.i (if argBad w g = true then 1 else if 64 < n then 2 else 0)] else if decide ((64 : Int) < (n : Int)) = true then [D.i 2] = [D.i (if argBad w g = true then 1 else if 64 < n then 2 else 0)] else [D.i 0] = [D.i (if argBad w g = true then 1 else if 64 < n then 2 else 0)]) := by
  rw [if_neg (by decide)]
  split
  · rfl
  · split
    · rename_i h
      have h := of_decide_eq_true h
      rw [if_pos (by omega)]
    · rename_i h
      have h : ¬ 64 < (n : Int) := by simpa using h
      rw [if_neg (by omega)]

theorem m18 : Meets Try.prog 18 S18 chkPre chkD := by
  refine meets_of_vt (pre := R) (Φ := F) mixed (hM0 (l := sg18) rfl) Try.func18 b18 n18 (loops_n 1 k18 fun k hk => ?_) e18 fun ds _ hp => ?_
  · match k, hk with
    | 0, _ => exact loop_this lf18_0 loopM18
  · obtain ⟨l, w, g, rfl, hm⟩ := hp
    have hpre : pr18 [.i 0, .l (l.map encP), .i ((l.map encP).length : Int), .i 0] := ⟨0, l, 0, by rw [List.length_map]; rfl, by omega, hm⟩
    have hl : lp18 [.i 0, .l (l.map encP), .i ((l.map encP).length : Int), .i 0] = scanN (badAt l) (fun j => [.i 0, .i 1, .i (j : Int)]) (fun j => [.i 1, .i 0, .i (j : Int)]) l.length 0 := by
      simp only [lp18, map_decP, List.length_map]; rfl
    have hc : chkD [.l (l.map encP), .i w, .i g] = [.i (cerr l w g)] := by simp only [chkD, map_decP]
    simp only [vt18, VT.ok, Nd.holds, X.outs, X.ds, X.d, Op1.ev, Op2.ev, List.cons_append, List.nil_append, List.getD_cons_zero, List.getD_cons_succ, D.int_i, D.bool_b, D.lst_l, ite_b, ite_or, show F 11800 = lp18 from rfl, show R 11800 = pr18 from rfl, hl, hc]
    refine ⟨fun _ => hpre, ?_⟩
    rcases scan_any (p := badAt l) (hit := fun j => [.i 0, .i 1, .i (j : Int)]) (miss := fun j => [.i 1, .i 0, .i (j : Int)]) l.length with ⟨h1, j, _, _, _, h2⟩ | ⟨h1, h2⟩
    · rw [h2]
      simp [cerr, h1]
    · rw [h2]
      simp only [takeD_zero, takeD_cons, List.getD_cons_zero, List.getD_cons_succ, D.int_i, cerr, h1, Bool.false_eq_true, if_false, arg_cond, List.length_map]
      exact cerr_split
end Go.Proofs.Ytnfndnaddnoiaaa.rv
