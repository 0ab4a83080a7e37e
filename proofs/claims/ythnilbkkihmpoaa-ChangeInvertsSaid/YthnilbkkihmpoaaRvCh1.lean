/-
  Changes of graphs, as plain functions of data.
-/
import Derived.Test.YthnilbkkihmpoaaRvGrA
import Derived.Test.YthnilbkkihmpoaaRvHand1
namespace Go.RV
open Go.RowKit

abbrev e0 : ByteArray := ⟨#[]⟩
def g0 : Gd := ⟨e0, false, [], [], []⟩
abbrev gc (x : List D) (j : Nat) : D := x.getD j default
def ndOf (x : List D) : List D := [gc x 2, gc x 3, gc x 4, gc x 5, gc x 6, gc x 7]
def egOf (x : List D) : List D := [gc x 8, gc x 9, gc x 10, gc x 11, gc x 12, gc x 13, gc x 14]

/-! ### which edits fit -/
def noneB (x : List D) : Bool := (cI x 8 == 0) && ((cI x 9 == 0) && ((cI x 10 == 0) && ((cI x 11 == 0) && ((cS x 12 == e0) && ((cI x 13 == 0) && (cI x 14 == 0))))))
def pnB (n : List D) (size label : Bool) : Bool := ((((cS n 0 == e0) && (cI n 4 == 0)) && (((cL n 5).length : Int) == 0)) && (size || ((cI n 2 == 0) && (cI n 3 == 0)))) && (label || (cS n 1 == e0))
def bareB (n : List D) : Bool := (((((cS n 0 == e0) && (cS n 1 == e0)) && (cI n 2 == 0)) && (cI n 3 == 0)) && (cI n 4 == 0)) && (((cL n 5).length : Int) == 0)
def fitsB (x : List D) : Bool :=
  if (cI x 0 == 1) = true then (cI x 1 == 0) && noneB x
  else if (cI x 0 == 3) = true then (cI x 1 == 0) && pnB (ndOf x) false false
  else if (cI x 0 == 2) = true then pnB (ndOf x) false false && noneB x
  else if (cI x 0 == 4) = true then pnB (ndOf x) false false && noneB x
  else if (cI x 0 == 5) = true then pnB (ndOf x) true false && noneB x
  else if (cI x 0 == 6) = true then pnB (ndOf x) false true && noneB x
  else false
def insB (g : Gd) (x : List D) : Bool :=
  if (cI x 0 == 1) = true then true
  else if (cI x 0 == 3) = true then true
  else if (cI x 0 == 4) = true then decide (0 ≤ cI x 1) && decide (cI x 1 < (g.E.length : Int))
  else decide (0 ≤ cI x 1) && decide (cI x 1 < (g.N.length : Int))

/-! ### edges behind a node that goes -/
def tch (at_ : Int) (x : List D) : Bool := (cI x 0 == at_) || (cI x 1 == at_)
def decD (at_ : Int) (d : D) : D := if at_ < d.int then .i (IntKind.i64.wrap (d.int - 1)) else d
def edgeW (at_ : Int) (x : List D) : List (List D) := if tch at_ x = true then [] else [[decD at_ (gc x 0), decD at_ (gc x 1), gc x 2, gc x 3, gc x 4, gc x 5, gc x 6]]
def wiE (E : List (List D)) (at_ : Int) : List (List D) := E.flatMap (edgeW at_)
def rmI (l : List (List D)) (k : Nat) : List (List D) := l.take k ++ l.drop (k + 1)

/-! ### the edit done -/
def szRow (n : List D) (x : List D) : List D := [gc n 0, gc n 1, gc x 4, gc x 5, gc n 4, gc n 5]
def lbRow (n : List D) (x : List D) : List D := [gc n 0, gc x 3, gc n 2, gc n 3, gc n 4, gc n 5]
def doneG (g : Gd) (x : List D) : Gd :=
  if (cI x 0 == 1) = true then { g with N := g.N ++ [ndOf x] }
  else if (cI x 0 == 3) = true then { g with E := g.E ++ [egOf x] }
  else if (cI x 0 == 4) = true then { g with E := rmI g.E (cI x 1).toNat }
  else if (cI x 0 == 2) = true then { g with N := rmI g.N (cI x 1).toNat, E := wiE g.E (cI x 1) }
  else if (cI x 0 == 5) = true then { g with N := g.N.set (cI x 1).toNat (szRow (el g.N (cI x 1).toNat) x) }
  else if (cI x 0 == 6) = true then { g with N := g.N.set (cI x 1).toNat (lbRow (el g.N (cI x 1).toNat) x) }
  else g
def applyG (g : Gd) (x : List D) : Gd × Int :=
  if validE g = 0 ∧ fitsB x = true then
    (if insB g x = true then (if validE (doneG g x) = 0 then (doneG g x, 0) else (g0, validE (doneG g x))) else (g0, 3))
  else (g0, 1)
def applyD (ds : List D) : List D := (applyG (gOf ds) (ds.drop 5)).1.ds ++ [.i (applyG (gOf ds) (ds.drop 5)).2]
def prApply (ds : List D) : Prop := (cL ds 12).length ≤ 1000000

/-! ### the inverse edits -/
def edit (k at_ : D) (n e : List D) : List D := [k, at_, gc n 0, gc n 1, gc n 2, gc n 3, gc n 4, gc n 5, gc e 0, gc e 1, gc e 2, gc e 3, gc e 4, gc e 5, gc e 6]
def zN : List D := [.s e0, .s e0, .i 0, .i 0, .i 0, .l []]
def zE : List D := [.i 0, .i 0, .i 0, .i 0, .s e0, .i 0, .i 0]
def bk (at_ : Int) (x : List D) : List (List D) := if tch at_ x = true then [edit (.i 3) (.i 0) zN x] else []
/-- an edge that stays behind one that goes -/
def badE (E : List (List D)) (at_ : Int) (j : Nat) : Bool := !tch at_ (el E j) && anyN (fun k => tch at_ (el E k)) j
def invG (g : Gd) (x : List D) : List (List D) × Int :=
  if (applyG g x).2 = 0 then
    (if (cI x 0 == 1) = true then ([edit (.i 2) (.i (g.N.length : Int)) zN zE], 0)
    else if (cI x 0 == 3) = true then ([edit (.i 4) (.i (g.E.length : Int)) zN zE], 0)
    else if (cI x 0 == 5) = true then ([edit (.i 5) (gc x 1) [.s e0, .s e0, gc (el g.N (cI x 1).toNat) 2, gc (el g.N (cI x 1).toNat) 3, .i 0, .l []] zE], 0)
    else if (cI x 0 == 6) = true then ([edit (.i 6) (gc x 1) [.s e0, gc (el g.N (cI x 1).toNat) 1, .i 0, .i 0, .i 0, .l []] zE], 0)
    else if (cI x 0 == 4) = true then (if cI x 1 = (g.E.length : Int) - 1 then ([edit (.i 3) (.i 0) zN (el g.E (cI x 1).toNat)], 0) else ([], 1))
    else if cI x 1 = (g.N.length : Int) - 1 ∧ anyN (badE g.E (cI x 1)) g.E.length = false then (edit (.i 1) (.i 0) (el g.N (cI x 1).toNat) zE :: g.E.flatMap (bk (cI x 1)), 0) else ([], 1))
  else ([], (applyG g x).2)
def invD (ds : List D) : List D := [.l (invG (gOf ds) (ds.drop 5)).1, .i (invG (gOf ds) (ds.drop 5)).2]

/-! ### runs of edits -/
/-- the graph where a run stops, at which edit, and its error -/
def runS (g : Gd) : List (List D) → Nat → Gd × Nat × Int
  | [], i => (g, i, 0)
  | x :: xs, i => if (applyG g x).2 = 0 then runS (applyG g x).1 xs (i + 1) else (g, i, (applyG g x).2)
def runG (g : Gd) (l : List (List D)) : Gd × Int × Int :=
  if validE g = 0 then (if (runS g l 0).2.2 = 0 then ((runS g l 0).1, (l.length : Int), 0) else (g0, ((runS g l 0).2.1 : Int), (runS g l 0).2.2)) else (g0, 0, 1)
def runD (ds : List D) : List D := (runG (gOf ds) (cL ds 5)).1.ds ++ [.i (runG (gOf ds) (cL ds 5)).2.1, .i (runG (gOf ds) (cL ds 5)).2.2]
def prRun (ds : List D) : Prop := ∀ i, i < (cL ds 5).length → (cL (el (cL ds 5) i) 7).length ≤ 1000000
def idR (n : Nat) : List (List D) := (List.range n).map fun (k : Nat) => [D.i (k : Int)]
def keptS (p : List (List D)) : List (List D) → List (List D)
  | [] => p
  | x :: xs => keptS (if (cI x 0 == 1) = true then p ++ [[.i (-1)]] else if (cI x 0 == 2) = true then rmI p (cI x 1).toNat else p) xs
/-- what is deleted is there -/
def keptOk (n : Nat) : List (List D) → Prop
  | [] => True
  | x :: xs => (cI x 0 = 2 → 0 ≤ cI x 1 ∧ cI x 1 < (n : Int)) ∧ keptOk (if (cI x 0 == 1) = true then n + 1 else if (cI x 0 == 2) = true then n - 1 else n) xs
def keptG (g : Gd) (l : List (List D)) : List (List D) × Int := if (runG g l).2.2 = 0 then (keptS (idR g.N.length) l, 0) else ([], (runG g l).2.2)
def keptD (ds : List D) : List D := [.l (keptG (gOf ds) (cL ds 5)).1, .i (keptG (gOf ds) (cL ds 5)).2]
def prKept (ds : List D) : Prop := prRun ds ∧ (cL ds 5).length ≤ 1000

/-! ### small lists -/
def fewN (N : List (List D)) (j : Nat) : Bool := decide (20 < ((cL (el N j) 5).length : Int))
def fewL (l : List (List D)) (j : Nat) : Bool := decide (20 < ((cL (el l j) 7).length : Int))
def fewB (g : Gd) (l : List (List D)) : Bool := !(((decide (80 < (g.N.length : Int)) || decide (300 < (g.E.length : Int))) || decide (30 < (g.C.length : Int))) || decide (20 < (l.length : Int))) && (!anyN (fewN g.N) g.N.length && !anyN (fewL l) l.length)
def fewD (ds : List D) : List D := [.b (fewB (gOf ds) (cL ds 5))]
def lpFw0 : List D → List D
  | [v, .i i, _, _, .l N, _, _] => scanN (fewN N) (fun j => [.i 0, .b false, .i (j : Int)]) (fun j => [.i 1, v, .i (j : Int)]) (N.length - i.toNat) i.toNat
  | _ => []
def prFw0 (ρ : List D) : Prop := ∃ (v a b : D) (N : List (List D)) (c d : D) (j : Nat), ρ = [v, .i (j : Int), a, b, .l N, c, d] ∧ j ≤ N.length ∧ N.length ≤ maxLen
def lpFw1 : List D → List D
  | [.l l, v, .i i] => scanN (fewL l) (fun j => [.i 0, .b false, .i (j : Int)]) (fun j => [.i 1, v, .i (j : Int)]) (l.length - i.toNat) i.toNat
  | _ => []
def prFw1 (ρ : List D) : Prop := ∃ (l : List (List D)) (v : D) (j : Nat), ρ = [.l l, v, .i (j : Int)] ∧ j ≤ l.length ∧ l.length ≤ maxLen

/-! ### equal lists of edits -/
def sameEditB (x y : List D) : Bool := ((((((((cI x 0 == cI y 0) && (cI x 1 == cI y 1)) && ((cI x 8 == cI y 8) && ((cI x 9 == cI y 9) && ((cI x 10 == cI y 10) && ((cI x 11 == cI y 11) && ((cS x 12 == cS y 12) && ((cI x 13 == cI y 13) && (cI x 14 == cI y 14)))))))) && (cS x 2 == cS y 2)) && (cS x 3 == cS y 3)) && (cI x 4 == cI y 4)) && (cI x 5 == cI y 5)) && (cI x 6 == cI y 6)) && eqR sameRow2 (cL x 7) (cL y 7)
theorem sameEditB_refl (x : List D) : sameEditB x x = true := by
  have h2 : ∀ x, sameRow2 x x = true := fun x => by simp [sameRow2]
  simp [sameEditB, eqR_refl h2]
def lpE2 (p : List D → List D → Bool) : List D → List D
  | [.l xs, .l ys, v, .i i] => scanN (fun j => !p (el xs j) (el ys j)) (fun j => [.i 0, .b false, .i (j : Int)]) (fun j => [.i 1, v, .i (j : Int)]) (xs.length - i.toNat) i.toNat
  | _ => []
def prE2 (ρ : List D) : Prop := ∃ (xs ys : List (List D)) (v : D) (j : Nat), ρ = [.l xs, .l ys, v, .i (j : Int)] ∧ j ≤ xs.length ∧ xs.length ≤ maxLen ∧ ys.length = xs.length

/-! ### rows -/
def nodeRow (x : List D) : Prop := ∃ (s t : ByteArray) (a b c : Int) (ps : List (List D)), x = [.s s, .s t, .i a, .i b, .i c, .l ps]
def edgeRow (x : List D) : Prop := ∃ (a b c d : Int) (s : ByteArray) (e f : Int), x = [.i a, .i b, .i c, .i d, .s s, .i e, .i f]
def editRow (x : List D) : Prop := ∃ (k a : Int) (s t : ByteArray) (w h c : Int) (ps : List (List D)) (p q r u : Int) (lb : ByteArray) (wt ln : Int), x = [.i k, .i a, .s s, .s t, .i w, .i h, .i c, .l ps, .i p, .i q, .i r, .i u, .s lb, .i wt, .i ln]

/-! ### loops -/
def prCopy (ds : List D) : Prop := ∃ (a b c d e : D) (ps : List (List D)), ds = [a, b, c, d, e, .l ps] ∧ ps.length ≤ 1000000
def prCloneG (ds : List D) : Prop := ∃ g : Gd, ds = g.ds ∧ g.N.length ≤ 1000000 ∧ g.E.length ≤ 1000000 ∧ g.C.length ≤ 1000000 ∧ ∀ x ∈ g.N, (cL x 5).length ≤ 1000000
def lpCl : List D → List D
  | [.l N, _, _, _, _, _, _, _] => [.i 0, .i (N.length : Int), .l N]
  | _ => []
def prCl (ρ : List D) : Prop := ∃ (N : List (List D)) (a b c d : D) (j : Nat), ρ = [.l N, .i (N.length : Int), .i (j : Int), a, b, c, d, .l (N.take j)] ∧ j ≤ N.length ∧ N.length ≤ 1000000 ∧ ∀ x ∈ N, nodeRow x ∧ (cL x 5).length ≤ 1000000
def wiD (ds : List D) : List D := [.l (wiE (cL ds 0) (cI ds 1))]
def prWi (ds : List D) : Prop := (cL ds 0).length ≤ 1000000
def lpWi : List D → List D
  | [.i a, .l E, _, _, _] => [.i 0, .i (E.length : Int), .l (wiE E a)]
  | _ => []
def prWiL (ρ : List D) : Prop := ∃ (a : Int) (E : List (List D)) (j : Nat), ρ = [.i a, .l E, .i (E.length : Int), .i (j : Int), .l (wiE (E.take j) a)] ∧ j ≤ E.length ∧ E.length ≤ 1000000
def prAt (ds : List D) : Prop := 0 ≤ cI ds 5 ∧ (cL ds 2).length ≤ 1000000 ∧ (cL ds 3).length ≤ 1000000
def rmD (ds : List D) : List D := (({ gOf ds with N := rmI (cL ds 2) (cI ds 5).toNat, E := wiE (cL ds 3) (cI ds 5) } : Gd)).ds
def lpRm0 : List D → List D
  | [.i a, _, _, _, .l N, _, _, _, _, _, _, _] => [.i 0, .i (N.length : Int), .l (rmI N a.toNat)]
  | _ => []
def prRm0 (ρ : List D) : Prop := ∃ (a : Nat) (p q : D) (N : List (List D)) (r s t u v w : D) (j : Nat), ρ = [.i (a : Int), .i (j : Int), p, q, .l N, r, s, t, u, v, .l (rmI (N.take j) a), w] ∧ j ≤ N.length ∧ N.length ≤ 1000000 ∧ ∀ x ∈ N, nodeRow x
def lpRm1 : List D → List D
  | [.i a, _, _, _, _, .l E, _, _, _, _, _, _] => [.i 0, .i (E.length : Int), .l (wiE E a)]
  | _ => []
def prRm1 (ρ : List D) : Prop := ∃ (a : Int) (p q r : D) (E : List (List D)) (s t u v w : D) (j : Nat), ρ = [.i a, .i (j : Int), p, q, r, .l E, s, t, u, v, w, .l (wiE (E.take j) a)] ∧ j ≤ E.length ∧ E.length ≤ 1000000
def chD (ds : List D) : List D := (({ gOf ds with N := (cL ds 2).set (cI ds 5).toNat [gc ds 6, gc ds 7, gc ds 8, gc ds 9, gc ds 10, gc ds 11] } : Gd)).ds
def lpCh : List D → List D
  | [.i a, _, _, _, .l N, _, _, p, q, r, s, t, u, _, _, _, _, _] => [.i 0, .i (N.length : Int), .l (N.set a.toNat [p, q, r, s, t, u])]
  | _ => []
def prCh (ρ : List D) : Prop := ∃ (a : Nat) (b c : D) (N : List (List D)) (d e p q r s t u f g h k : D) (j : Nat), ρ = [.i (a : Int), .i (j : Int), b, c, .l N, d, e, p, q, r, s, t, u, f, g, h, k, .l ((N.set a [p, q, r, s, t, u]).take j)] ∧ j ≤ N.length ∧ N.length ≤ 1000000 ∧ ∀ x ∈ N, nodeRow x
def doneD (ds : List D) : List D := (doneG (gOf ds) (ds.drop 5)).ds
def prDone (ds : List D) : Prop := validE (gOf ds) = 0 ∧ insB (gOf ds) (ds.drop 5) = true
/-- what the loops of Inverse and returned gather -/
def bkR (f : List D) (E : List (List D)) (a : Int) (j : Nat) : List (List D) := f :: (E.take j).flatMap (bk a)
def lpIv : List D → List D
  | [v, w, .l E, _, .i i, _, .i a, _, _, _, _, _, _, _, _, _, _, _, _, _, .l (f :: _)] => scanN (badE E a) (fun j => [.i 0, .l [], .i 1, .i (j : Int), .l (bkR f E a j)]) (fun j => [.i 1, v, w, .i (j : Int), .l (bkR f E a j)]) (E.length - i.toNat) i.toNat
  | _ => []
def prIv (ρ : List D) : Prop := ∃ (v w : D) (E : List (List D)) (c : D) (a : Int) (c2 c3 c4 c5 c6 c7 c8 c9 c10 c11 c12 c13 c14 : D) (f : List D) (j : Nat),
  ρ = [v, w, .l E, .i (E.length : Int), .i (j : Int), c, .i a, c2, c3, c4, c5, c6, c7, c8, c9, c10, c11, c12, c13, c14, .l (bkR f E a j)] ∧ j ≤ E.length ∧ E.length ≤ 1000000
def lpRt : List D → List D
  | [v, w, .i a, .i i, _, _, _, .l E, _, .l (f :: _)] => scanN (badE E a) (fun j => [.i 0, .l [], .b false, .i (j : Int), .l (bkR f E a j)]) (fun j => [.i 1, v, w, .i (j : Int), .l (bkR f E a j)]) (E.length - i.toNat) i.toNat
  | _ => []
def prRt (ρ : List D) : Prop := ∃ (v w : D) (a : Int) (p q r : D) (E : List (List D)) (s : D) (f : List D) (j : Nat), ρ = [v, w, .i a, .i (j : Int), p, q, r, .l E, s, .l (bkR f E a j)] ∧ j ≤ E.length ∧ E.length ≤ 1000000
def rtD (ds : List D) : List D := if anyN (badE (cL ds 3) (((cL ds 2).length : Int) - 1)) (cL ds 3).length = true then [.l [], .b false] else [.l (bkR (edit (.i 1) (.i 0) (el (cL ds 2) ((cL ds 2).length - 1)) zE) (cL ds 3) (((cL ds 2).length : Int) - 1) (cL ds 3).length), .b true]
def prRtF (ds : List D) : Prop := 0 < (cL ds 2).length ∧ (cL ds 2).length ≤ 1000000 ∧ (cL ds 3).length ≤ 1000000
def lpRun : List D → List D
  | [a, b, .l l, _, .i i, z1, z2, z3, z4, z5, .s nm, .b dr, .l N, .l E, .l C] =>
    if (runS ⟨nm, dr, N, E, C⟩ (l.drop i.toNat) i.toNat).2.2 = 0 then [.i 1, a, b, .i (l.length : Int), z1, z2, z3, z4, z5] ++ (runS ⟨nm, dr, N, E, C⟩ (l.drop i.toNat) i.toNat).1.ds
    else [.i 0, .i ((runS ⟨nm, dr, N, E, C⟩ (l.drop i.toNat) i.toNat).2.1 : Int), .i (runS ⟨nm, dr, N, E, C⟩ (l.drop i.toNat) i.toNat).2.2, .i ((runS ⟨nm, dr, N, E, C⟩ (l.drop i.toNat) i.toNat).2.1 : Int)] ++ g0.ds ++ (runS ⟨nm, dr, N, E, C⟩ (l.drop i.toNat) i.toNat).1.ds
  | _ => []
def prRunL (ρ : List D) : Prop := ∃ (a b : D) (l : List (List D)) (z1 z2 z3 z4 z5 : D) (g : Gd) (j : Nat), ρ = [a, b, .l l, .i (l.length : Int), .i (j : Int), z1, z2, z3, z4, z5, .s g.nm, .b g.dr, .l g.N, .l g.E, .l g.C] ∧ j ≤ l.length ∧ l.length ≤ maxLen ∧ ∀ i, i < l.length → (cL (el l i) 7).length ≤ 1000000
def lpRunR : List D → List D
  | [.l l, a, b, .i i, .s nm, .b dr, .l N, .l E, .l C, z1, z2, z3, z4, z5] =>
    if (runS ⟨nm, dr, N, E, C⟩ (l.drop i.toNat) i.toNat).2.2 = 0 then [.i 1, a, b, .i (l.length : Int)] ++ (runS ⟨nm, dr, N, E, C⟩ (l.drop i.toNat) i.toNat).1.ds ++ [z1, z2, z3, z4, z5]
    else [.i 0, .i ((runS ⟨nm, dr, N, E, C⟩ (l.drop i.toNat) i.toNat).2.1 : Int), .i (runS ⟨nm, dr, N, E, C⟩ (l.drop i.toNat) i.toNat).2.2, .i ((runS ⟨nm, dr, N, E, C⟩ (l.drop i.toNat) i.toNat).2.1 : Int)] ++ (runS ⟨nm, dr, N, E, C⟩ (l.drop i.toNat) i.toNat).1.ds ++ g0.ds
  | _ => []
def prRunR (ρ : List D) : Prop := ∃ (a b : D) (l : List (List D)) (z1 z2 z3 z4 z5 : D) (g : Gd) (j : Nat), ρ = [.l l, a, b, .i (j : Int), .s g.nm, .b g.dr, .l g.N, .l g.E, .l g.C, z1, z2, z3, z4, z5] ∧ j ≤ l.length ∧ l.length ≤ maxLen
def lpK0 : List D → List D
  | [.i n, _, _] => [.i 0, .i n, .l (idR n.toNat)]
  | _ => []
def prK0 (ρ : List D) : Prop := ∃ n j : Nat, ρ = [.i (n : Int), .i (j : Int), .l (idR j)] ∧ j ≤ n ∧ n ≤ 1000000
def lpK0r : List D → List D
  | [_, _, _, .l N, _, _, _] => [.i 0, .i (N.length : Int), .l (idR N.length)]
  | _ => []
def prK0r (ρ : List D) : Prop := ∃ (a b : D) (N : List (List D)) (c d : D) (j : Nat), ρ = [.i (j : Int), a, b, .l N, c, d, .l (idR j)] ∧ j ≤ N.length ∧ N.length ≤ 1000000
def lpK1 : List D → List D
  | [.l l, _, .i i, .l p] => [.i 0, .i (l.length : Int), .l (keptS p (l.drop i.toNat))]
  | _ => []
def prK1 (ρ : List D) : Prop := ∃ (l p : List (List D)) (j : Nat), ρ = [.l l, .i (l.length : Int), .i (j : Int), .l p] ∧ j ≤ l.length ∧ l.length ≤ 1000 ∧ p.length ≤ 1000000 + j ∧ keptOk p.length (l.drop j) ∧ ∀ i, i < l.length → gc (el l i) 1 = .i (cI (el l i) 1) ∧ cI (el l i) 1 ≤ 9223372036854775807
def lpK1r : List D → List D
  | [.l l, .i i, .l p] => [.i 0, .i (l.length : Int), .l (keptS p (l.drop i.toNat))]
  | _ => []
def prK1r (ρ : List D) : Prop := ∃ (l p : List (List D)) (j : Nat), ρ = [.l l, .i (j : Int), .l p] ∧ j ≤ l.length ∧ l.length ≤ 1000 ∧ p.length ≤ 1000000 + j ∧ keptOk p.length (l.drop j)
/-- nodes that are kept: their places before, in order -/
def keptR (N M p : List (List D)) : Prop := M.length = p.length ∧ (∀ i, i < p.length → 0 ≤ cI (el p i) 0 → cI (el p i) 0 < (N.length : Int) ∧ cS (el M i) 0 = cS (el N (cI (el p i) 0).toNat) 0 ∧ cI (el M i) 4 = cI (el N (cI (el p i) 0).toNat) 4) ∧
  ∀ i k, i < k → k < p.length → 0 ≤ cI (el p i) 0 → 0 ≤ cI (el p k) 0 → cI (el p i) 0 < cI (el p k) 0
def lastP : List (List D) → Int → Int
  | [], z => z
  | x :: xs, z => lastP xs (if cI x 0 < 0 then z else cI x 0)
def lpKp : List D → List D
  | [v, .l p, .i z, .i i, _, _, _, _, _, _, _, _, _, _] => [.i 1, v, .i (lastP (p.drop i.toNat) z), .i (p.length : Int)]
  | _ => []
def prKp (ρ : List D) : Prop := ∃ (v : D) (p : List (List D)) (z : Int) (a b : D) (N : List (List D)) (c d e f : D) (M : List (List D)) (g h : D) (j : Nat), ρ = [v, .l p, .i z, .i (j : Int), a, b, .l N, c, d, e, f, .l M, g, h] ∧ j ≤ p.length ∧ p.length ≤ maxLen ∧ keptR N M p ∧ (∀ k, j ≤ k → k < p.length → 0 ≤ cI (el p k) 0 → z < cI (el p k) 0) ∧ ∀ i, i < p.length → gc (el p i) 0 = .i (cI (el p i) 0)
end Go.RV
