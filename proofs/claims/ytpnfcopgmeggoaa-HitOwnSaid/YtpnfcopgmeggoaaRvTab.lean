/-
  Chapter 54: the table of closed forms.
-/
import Derived.Test.YtpnfcopgmeggoaaRvSc3
import Derived.Test.YtpnfcopgmeggoaaRvWd2
namespace Go.Proofs.Ytpnfcopgmeggoaa.rv
open Go.RV

def one (_ : List D) : List D := [.b true]
def smallP (I : List (List D)) (j : Nat) : Bool := decide (20 < ((cL (el I j) 6).length : Int)) || decide (50 < ((cS (el I j) 7).size : Int))
def smallB (I : List (List D)) : Bool := !decide (40 < (I.length : Int)) && !anyN (smallP I) I.length
def smallD (ds : List D) : List D := [.b (smallB (cL ds 4))]
def lpSmall : List D → List D
  | [v, .i i, _, _, _, _, .l I] => scanN (smallP I) (fun j => [.i 0, .b false, .i (j : Int)]) (fun j => [.i 1, v, .i (j : Int)]) (I.length - i.toNat) i.toNat
  | _ => []
def prSmall (ρ : List D) : Prop := ∃ (v a b c d : D) (I : List (List D)) (j : Nat), ρ = [v, .i (j : Int), a, b, c, d, .l I] ∧ j ≤ I.length ∧ I.length ≤ maxLen
def lpHs : List D → List D
  | [.l xs, .i n, v, .i i] => scanN (fun j => cI (el xs j) 0 == n) (fun j => [.i 0, .b true, .i (j : Int)]) (fun j => [.i 1, v, .i (j : Int)]) (xs.length - i.toNat) i.toNat
  | _ => []
def prHs (ρ : List D) : Prop := ∃ (xs : List (List D)) (n : Int) (v : D) (j : Nat), ρ = [.l xs, .i n, v, .i (j : Int)] ∧ j ≤ xs.length ∧ xs.length ≤ maxLen
def hsD (ds : List D) : List D := [.b (anyN (fun j => cI (el (cL ds 0) j) 0 == cI ds 1) (cL ds 0).length)]
/-- all of l are in m -/
def subR (l m : List (List D)) : Prop := ∀ i, i < l.length → anyN (fun j => cI (el m j) 0 == cI (el l i) 0) m.length = true
def lpSub : List D → List D
  | [v, .l l, _, .i _] => [.i 1, v, .i (l.length : Int)]
  | _ => []
def prSub (ρ : List D) : Prop := ∃ (v : D) (l m : List (List D)) (j : Nat), ρ = [v, .l l, .l m, .i (j : Int)] ∧ j ≤ l.length ∧ l.length ≤ maxLen ∧ subR l m


def F : FuncId → List D → List D := tabOf [(23, fn23), (27, fn27), (56, fn56), (41, fn41), (35, fn35), (38, fn38), (55, fn55), (53, fn53), (54, fn54), (37, fn37), (40, fn40), (63, fn63), (58, fn58), (68, fn68), (20025, dyPt), (16600, ixLp dyPt 2), (66, ixFn dyPt 2), (57, cfFn dyPt 2), (14200, lpDis), (42, disD), (43, ptsD), (22, pathD), (13600, lpBn), (36, bndD), (12100, lpPa), (21, pathD), (13900, lpBr), (39, bndD), (20006, dyBy), (16900, ixLp dyBy 1), (69, ixFn dyBy 1), (67, cfFn dyBy 1), (64, plainD), (61, fn61), (62, usedD), (85, extL), (86, fn86), (51, itmD), (15200, lpBc), (16500, lpUn), (65, uniD), (52, bdsD), (13000, lpVc), (30, valD), (13300, lpIt), (33, itmD), (13400, lpBo), (34, bdsD), (11700, lpVr), (17, valD), (8, one), (11100, lpSmall), (11, smallD), (11200, lpSI), (12, eqFn sameI1), (12000, lpHs), (20, hsD), (10600, lpSub), (24, fn24), (25, fn25), (26, fn26), (28, fn28), (29, fn29), (10900, lpNr), (9, nearD), (11000, lpNs), (10, nearD), (31, hitD), (32, hitD), (11300, lpAl), (13, allD), (11400, lpAl), (14, allD), (15, atD), (16, atD), (11800, lpWc), (18, witD), (11900, lpWr), (19, witD)]
def R : FuncId → List D → Prop := tabP [(20025, dpPt 58), (16600, ixPr (dpPt 58) 2), (66, ixPre (dpPt 58) 2), (57, ixPre (dpPt 58) 2), (14200, prDis), (13600, prBn), (12100, prPa), (13900, prBr), (20006, dpBy 68), (16900, ixPr (dpBy 68) 1), (69, ixPre (dpBy 68) 1), (67, ixPre (dpBy 68) 1), (15200, prBc), (16500, prUn), (52, bdPre), (13000, prVc), (13300, prIt), (13400, prBo), (11700, prVr), (11100, prSmall), (11200, prSI), (12000, prHs), (10600, prSub), (10900, prNr), (11000, prNr), (11300, prAl), (11400, prAl), (11800, prWc), (11900, prWr)]
theorem F23 : F 23 = fn23 := rfl
theorem R23 : R 23 = fun _ => True := rfl
theorem F27 : F 27 = fn27 := rfl
theorem R27 : R 27 = fun _ => True := rfl
theorem F56 : F 56 = fn56 := rfl
theorem R56 : R 56 = fun _ => True := rfl
theorem F41 : F 41 = fn41 := rfl
theorem R41 : R 41 = fun _ => True := rfl
theorem F35 : F 35 = fn35 := rfl
theorem R35 : R 35 = fun _ => True := rfl
theorem F38 : F 38 = fn38 := rfl
theorem R38 : R 38 = fun _ => True := rfl
theorem F55 : F 55 = fn55 := rfl
theorem R55 : R 55 = fun _ => True := rfl
theorem F53 : F 53 = fn53 := rfl
theorem R53 : R 53 = fun _ => True := rfl
theorem F54 : F 54 = fn54 := rfl
theorem R54 : R 54 = fun _ => True := rfl
theorem F37 : F 37 = fn37 := rfl
theorem R37 : R 37 = fun _ => True := rfl
theorem F40 : F 40 = fn40 := rfl
theorem R40 : R 40 = fun _ => True := rfl
theorem F63 : F 63 = fn63 := rfl
theorem R63 : R 63 = fun _ => True := rfl
theorem F58 : F 58 = fn58 := rfl
theorem R58 : R 58 = fun _ => True := rfl
theorem F68 : F 68 = fn68 := rfl
theorem R68 : R 68 = fun _ => True := rfl
theorem F20025 : F 20025 = dyPt := rfl
theorem R20025 : R 20025 = dpPt 58 := rfl
theorem F16600 : F 16600 = ixLp dyPt 2 := rfl
theorem R16600 : R 16600 = ixPr (dpPt 58) 2 := rfl
theorem F66 : F 66 = ixFn dyPt 2 := rfl
theorem R66 : R 66 = ixPre (dpPt 58) 2 := rfl
theorem F57 : F 57 = cfFn dyPt 2 := rfl
theorem R57 : R 57 = ixPre (dpPt 58) 2 := rfl
theorem F14200 : F 14200 = lpDis := rfl
theorem R14200 : R 14200 = prDis := rfl
theorem F42 : F 42 = disD := rfl
theorem R42 : R 42 = fun _ => True := rfl
theorem F43 : F 43 = ptsD := rfl
theorem R43 : R 43 = fun _ => True := rfl
theorem F22 : F 22 = pathD := rfl
theorem R22 : R 22 = fun _ => True := rfl
theorem F13600 : F 13600 = lpBn := rfl
theorem R13600 : R 13600 = prBn := rfl
theorem F36 : F 36 = bndD := rfl
theorem R36 : R 36 = fun _ => True := rfl
theorem F12100 : F 12100 = lpPa := rfl
theorem R12100 : R 12100 = prPa := rfl
theorem F21 : F 21 = pathD := rfl
theorem R21 : R 21 = fun _ => True := rfl
theorem F13900 : F 13900 = lpBr := rfl
theorem R13900 : R 13900 = prBr := rfl
theorem F39 : F 39 = bndD := rfl
theorem R39 : R 39 = fun _ => True := rfl
theorem F20006 : F 20006 = dyBy := rfl
theorem R20006 : R 20006 = dpBy 68 := rfl
theorem F16900 : F 16900 = ixLp dyBy 1 := rfl
theorem R16900 : R 16900 = ixPr (dpBy 68) 1 := rfl
theorem F69 : F 69 = ixFn dyBy 1 := rfl
theorem R69 : R 69 = ixPre (dpBy 68) 1 := rfl
theorem F67 : F 67 = cfFn dyBy 1 := rfl
theorem R67 : R 67 = ixPre (dpBy 68) 1 := rfl
theorem F64 : F 64 = plainD := rfl
theorem R64 : R 64 = fun _ => True := rfl
theorem F61 : F 61 = fn61 := rfl
theorem R61 : R 61 = fun _ => True := rfl
theorem F62 : F 62 = usedD := rfl
theorem R62 : R 62 = fun _ => True := rfl
theorem F85 : F 85 = extL := rfl
theorem R85 : R 85 = fun _ => True := rfl
theorem F86 : F 86 = fn86 := rfl
theorem R86 : R 86 = fun _ => True := rfl
theorem F51 : F 51 = itmD := rfl
theorem R51 : R 51 = fun _ => True := rfl
theorem F15200 : F 15200 = lpBc := rfl
theorem R15200 : R 15200 = prBc := rfl
theorem F16500 : F 16500 = lpUn := rfl
theorem R16500 : R 16500 = prUn := rfl
theorem F65 : F 65 = uniD := rfl
theorem R65 : R 65 = fun _ => True := rfl
theorem F52 : F 52 = bdsD := rfl
theorem R52 : R 52 = bdPre := rfl
theorem F13000 : F 13000 = lpVc := rfl
theorem R13000 : R 13000 = prVc := rfl
theorem F30 : F 30 = valD := rfl
theorem R30 : R 30 = fun _ => True := rfl
theorem F13300 : F 13300 = lpIt := rfl
theorem R13300 : R 13300 = prIt := rfl
theorem F33 : F 33 = itmD := rfl
theorem R33 : R 33 = fun _ => True := rfl
theorem F13400 : F 13400 = lpBo := rfl
theorem R13400 : R 13400 = prBo := rfl
theorem F34 : F 34 = bdsD := rfl
theorem R34 : R 34 = fun _ => True := rfl
theorem F11700 : F 11700 = lpVr := rfl
theorem R11700 : R 11700 = prVr := rfl
theorem F17 : F 17 = valD := rfl
theorem R17 : R 17 = fun _ => True := rfl
theorem F8 : F 8 = one := rfl
theorem R8 : R 8 = fun _ => True := rfl
theorem F11100 : F 11100 = lpSmall := rfl
theorem R11100 : R 11100 = prSmall := rfl
theorem F11 : F 11 = smallD := rfl
theorem R11 : R 11 = fun _ => True := rfl
theorem F11200 : F 11200 = lpSI := rfl
theorem R11200 : R 11200 = prSI := rfl
theorem F12 : F 12 = eqFn sameI1 := rfl
theorem R12 : R 12 = fun _ => True := rfl
theorem F12000 : F 12000 = lpHs := rfl
theorem R12000 : R 12000 = prHs := rfl
theorem F20 : F 20 = hsD := rfl
theorem R20 : R 20 = fun _ => True := rfl
theorem F10600 : F 10600 = lpSub := rfl
theorem R10600 : R 10600 = prSub := rfl
theorem F24 : F 24 = fn24 := rfl
theorem R24 : R 24 = fun _ => True := rfl
theorem F25 : F 25 = fn25 := rfl
theorem R25 : R 25 = fun _ => True := rfl
theorem F26 : F 26 = fn26 := rfl
theorem R26 : R 26 = fun _ => True := rfl
theorem F28 : F 28 = fn28 := rfl
theorem R28 : R 28 = fun _ => True := rfl
theorem F29 : F 29 = fn29 := rfl
theorem R29 : R 29 = fun _ => True := rfl
theorem F10900 : F 10900 = lpNr := rfl
theorem R10900 : R 10900 = prNr := rfl
theorem F9 : F 9 = nearD := rfl
theorem R9 : R 9 = fun _ => True := rfl
theorem F11000 : F 11000 = lpNs := rfl
theorem R11000 : R 11000 = prNr := rfl
theorem F10 : F 10 = nearD := rfl
theorem R10 : R 10 = fun _ => True := rfl
theorem F31 : F 31 = hitD := rfl
theorem R31 : R 31 = fun _ => True := rfl
theorem F32 : F 32 = hitD := rfl
theorem R32 : R 32 = fun _ => True := rfl
theorem F11300 : F 11300 = lpAl := rfl
theorem R11300 : R 11300 = prAl := rfl
theorem F13 : F 13 = allD := rfl
theorem R13 : R 13 = fun _ => True := rfl
theorem F11400 : F 11400 = lpAl := rfl
theorem R11400 : R 11400 = prAl := rfl
theorem F14 : F 14 = allD := rfl
theorem R14 : R 14 = fun _ => True := rfl
theorem F15 : F 15 = atD := rfl
theorem R15 : R 15 = fun _ => True := rfl
theorem F16 : F 16 = atD := rfl
theorem R16 : R 16 = fun _ => True := rfl
theorem F11800 : F 11800 = lpWc := rfl
theorem R11800 : R 11800 = prWc := rfl
theorem F18 : F 18 = witD := rfl
theorem R18 : R 18 = fun _ => True := rfl
theorem F11900 : F 11900 = lpWr := rfl
theorem R11900 : R 11900 = prWr := rfl
theorem F19 : F 19 = witD := rfl
theorem R19 : R 19 = fun _ => True := rfl
end Go.Proofs.Ytpnfcopgmeggoaa.rv
