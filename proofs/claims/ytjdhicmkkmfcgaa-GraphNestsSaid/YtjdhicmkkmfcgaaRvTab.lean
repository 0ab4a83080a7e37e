/-
  Chapter 11: the table of closed forms.
-/
import Derived.Test.YtjdhicmkkmfcgaaRvGr2
import Derived.Test.YtjdhicmkkmfcgaaRvFns
namespace Go.Proofs.Ytjdhicmkkmfcgaa.rv
open Go.RV

def one (_ : List D) : List D := [.b true]
def smallP (N : List (List D)) (j : Nat) : Bool := ((decide (50 < ((cS (el N j) 0).size : Int)) || decide (100 < ((cS (el N j) 1).size : Int))) || decide (20 < ((cL (el N j) 5).length : Int)))
def smallB (g : Gd) : Bool := !(((decide (100 < (g.N.length : Int)) || decide (300 < (g.E.length : Int))) || decide (30 < (g.C.length : Int))) || decide (50 < (g.nm.size : Int))) && !anyN (smallP g.N) g.N.length
def smallD (ds : List D) : List D := [.b (smallB (gOf ds))]
def lpSmall : List D → List D
  | [v, .i i, _, _, .l N, _, _] => scanN (smallP N) (fun j => [.i 0, .b false, .i (j : Int)]) (fun j => [.i 1, v, .i (j : Int)]) (N.length - i.toNat) i.toNat
  | _ => []
def prSmall (ρ : List D) : Prop := ∃ (v a b : D) (N : List (List D)) (c d : D) (j : Nat), ρ = [v, .i (j : Int), a, b, .l N, c, d] ∧ j ≤ N.length ∧ N.length ≤ maxLen
def lpHs : List D → List D
  | [.l xs, .i n, v, .i i] => scanN (fun j => cI (el xs j) 0 == n) (fun j => [.i 0, .b true, .i (j : Int)]) (fun j => [.i 1, v, .i (j : Int)]) (xs.length - i.toNat) i.toNat
  | _ => []
def prHs (ρ : List D) : Prop := ∃ (xs : List (List D)) (n : Int) (v : D) (j : Nat), ρ = [.l xs, .i n, v, .i (j : Int)] ∧ j ≤ xs.length ∧ xs.length ≤ maxLen
def hsD (ds : List D) : List D := [.b (anyN (fun j => cI (el (cL ds 0) j) 0 == cI ds 1) (cL ds 0).length)]
/-- all of l are in m -/
def subR (l m : List (List D)) : Prop := ∀ i, i < l.length → anyN (fun j => cI (el m j) 0 == cI (el l i) 0) m.length = true
def lpSub : List D → List D
  | [v, .l l, _, .i _] => [.i 1, v, .i (l.length : Int)]
  | _ => []
def prSub (ρ : List D) : Prop := ∃ (v : D) (l m : List (List D)) (j : Nat), ρ = [v, .l l, .l m, .i (j : Int)] ∧ j ≤ l.length ∧ l.length ≤ maxLen ∧ subR l m
def lp6 : List D → List D
  | [_, _, v, _, .i _, _, _, _, _, .l C] => [.i 1, v, .i (C.length : Int)]
  | _ => []
def pr6 (ρ : List D) : Prop := ∃ (a b : Nat) (v : D) (g : Gd) (j : Nat), ρ = [.i (a : Int), .i (b : Int), v, .l (memR g (comE g a b)), .i (j : Int), .s g.nm, .b g.dr, .l g.N, .l g.E, .l g.C] ∧ j ≤ g.C.length ∧ validE g = 0 ∧ a < g.N.length ∧ b < g.N.length


def F : FuncId → List D → List D := tabOf [(60, fn60), (61, fn61), (14700, lpWord), (47, wordD), (48, fn48), (27, nameD), (65, fn65), (66, fn66), (15400, lpWord), (54, wordD), (55, fn55), (31, nameD), (36, fn36), (20049, dyNm), (13500, ixLp dyNm 6), (35, ixFn dyNm 6), (11, findD), (14900, lpLab), (49, labelD), (50, fn50), (63, fn63), (20075, dyNm), (16700, ixLp dyNm 2), (67, ixFn dyNm 2), (62, cfFn dyNm 2), (15100, lpPorts), (51, ports8D), (28, nodeD), (53, fn53), (20051, dyNm), (16400, ixLp dyNm 2), (64, ixFn dyNm 2), (52, cfFn dyNm 2), (14300, lpAr), (43, aroundD), (45, depthD), (29, cluD), (30, edgeD), (10900, lpV0), (10901, lpV1), (10902, lpV2), (9, validD), (11200, lpFind), (12, findD), (15600, lpPlain), (56, plainD), (15701, lpPortsR), (15700, lpPortsI), (57, portsD), (32, nodeD), (14600, lpDep), (46, depthD), (13300, lpCluR), (33, cluD), (34, edgeD), (11000, lpW0), (11001, lpW1), (11002, lpW2), (10, validD), (15900, iiLp), (59, iiFn), (42, ciFn), (11900, lpMem), (19, memD), (14400, lpHas), (44, hasD), (12000, lpMemR), (20, memD), (21, depED), (22, depED), (12300, lpCom), (23, comD), (12400, lpComR), (24, comD), (11800, lpSI), (18, eqFn sameI1), (11300, lpSA), (13, saD), (11400, lpSk), (14, skD), (11500, lpSkR), (15, skD), (15800, eqLp sameRow2), (58, eqFn sameRow2), (13900, eqLp sameEdgeB), (39, eqFn sameEdgeB), (14000, eqLp sameRow2), (40, eqFn sameRow2), (38, sameNodeD), (69049, dySame), (13700, eqfLp dySame 6), (37, eqfFn dySame 6), (16, sameD), (14100, lpSN), (41, sameNodeD), (11700, lpS0), (11701, lpS1), (11702, lpS2), (17, sameD), (7, smallD), (10700, lpSmall), (25, hsD), (12500, lpHs), (26, fn26), (8, one), (10602, lp6), (10600, lpSub), (10601, lpSub)]
def R : FuncId → List D → Prop := tabP [(14700, prWord), (15400, prWord), (20049, dpNm 36 [.str] 1 6), (13500, ixPr (dpNm 36 [.str] 1 6) 6), (35, ixPre (dpNm 36 [.str] 1 6) 6), (14900, prLab), (20075, dpNm 63 [.str, .int .i64] 2 2), (16700, ixPr (dpNm 63 [.str, .int .i64] 2 2) 2), (67, ixPre (dpNm 63 [.str, .int .i64] 2 2) 2), (62, ixPre (dpNm 63 [.str, .int .i64] 2 2) 2), (15100, prPorts), (28, prNode), (20051, dpNm 53 [.str, .int .i64] 2 2), (16400, ixPr (dpNm 53 [.str, .int .i64] 2 2) 2), (64, ixPre (dpNm 53 [.str, .int .i64] 2 2) 2), (52, ixPre (dpNm 53 [.str, .int .i64] 2 2) 2), (14300, prArL), (43, prAr), (45, prAr), (29, prClu), (10900, prV0), (10901, prV1), (10902, prV2), (11200, prFind), (15600, prPlain), (15701, prPortsR), (15700, prPortsI), (32, prNode), (14600, prDep), (46, prAr), (13300, prCluR), (33, prClu), (11000, prW0), (11001, prW1), (11002, prW2), (15900, iiPr), (11900, prMem), (14400, prHas), (44, prHasF), (12000, prMemR), (12300, prCom), (12400, prComR), (11800, prSI), (11300, prSA), (11400, prSk), (14, skPre), (11500, prSkR), (15, skPre), (15800, eqPr), (13900, eqPr), (14000, eqPr), (69049, dpSame 38), (13700, eqfPr (dpSame 38) 6), (37, eqfPre (dpSame 38) 6), (14100, prSN), (11700, prS0), (11701, prS1), (11702, prS2), (10700, prSmall), (12500, prHs), (10602, pr6), (10600, prSub), (10601, prSub)]
theorem F60 : F 60 = fn60 := rfl
theorem R60 : R 60 = fun _ => True := rfl
theorem F61 : F 61 = fn61 := rfl
theorem R61 : R 61 = fun _ => True := rfl
theorem F14700 : F 14700 = lpWord := rfl
theorem R14700 : R 14700 = prWord := rfl
theorem F47 : F 47 = wordD := rfl
theorem R47 : R 47 = fun _ => True := rfl
theorem F48 : F 48 = fn48 := rfl
theorem R48 : R 48 = fun _ => True := rfl
theorem F27 : F 27 = nameD := rfl
theorem R27 : R 27 = fun _ => True := rfl
theorem F65 : F 65 = fn65 := rfl
theorem R65 : R 65 = fun _ => True := rfl
theorem F66 : F 66 = fn66 := rfl
theorem R66 : R 66 = fun _ => True := rfl
theorem F15400 : F 15400 = lpWord := rfl
theorem R15400 : R 15400 = prWord := rfl
theorem F54 : F 54 = wordD := rfl
theorem R54 : R 54 = fun _ => True := rfl
theorem F55 : F 55 = fn55 := rfl
theorem R55 : R 55 = fun _ => True := rfl
theorem F31 : F 31 = nameD := rfl
theorem R31 : R 31 = fun _ => True := rfl
theorem F36 : F 36 = fn36 := rfl
theorem R36 : R 36 = fun _ => True := rfl
theorem F20049 : F 20049 = dyNm := rfl
theorem R20049 : R 20049 = dpNm 36 [.str] 1 6 := rfl
theorem F13500 : F 13500 = ixLp dyNm 6 := rfl
theorem R13500 : R 13500 = ixPr (dpNm 36 [.str] 1 6) 6 := rfl
theorem F35 : F 35 = ixFn dyNm 6 := rfl
theorem R35 : R 35 = ixPre (dpNm 36 [.str] 1 6) 6 := rfl
theorem F11 : F 11 = findD := rfl
theorem R11 : R 11 = fun _ => True := rfl
theorem F14900 : F 14900 = lpLab := rfl
theorem R14900 : R 14900 = prLab := rfl
theorem F49 : F 49 = labelD := rfl
theorem R49 : R 49 = fun _ => True := rfl
theorem F50 : F 50 = fn50 := rfl
theorem R50 : R 50 = fun _ => True := rfl
theorem F63 : F 63 = fn63 := rfl
theorem R63 : R 63 = fun _ => True := rfl
theorem F20075 : F 20075 = dyNm := rfl
theorem R20075 : R 20075 = dpNm 63 [.str, .int .i64] 2 2 := rfl
theorem F16700 : F 16700 = ixLp dyNm 2 := rfl
theorem R16700 : R 16700 = ixPr (dpNm 63 [.str, .int .i64] 2 2) 2 := rfl
theorem F67 : F 67 = ixFn dyNm 2 := rfl
theorem R67 : R 67 = ixPre (dpNm 63 [.str, .int .i64] 2 2) 2 := rfl
theorem F62 : F 62 = cfFn dyNm 2 := rfl
theorem R62 : R 62 = ixPre (dpNm 63 [.str, .int .i64] 2 2) 2 := rfl
theorem F15100 : F 15100 = lpPorts := rfl
theorem R15100 : R 15100 = prPorts := rfl
theorem F51 : F 51 = ports8D := rfl
theorem R51 : R 51 = fun _ => True := rfl
theorem F28 : F 28 = nodeD := rfl
theorem R28 : R 28 = prNode := rfl
theorem F53 : F 53 = fn53 := rfl
theorem R53 : R 53 = fun _ => True := rfl
theorem F20051 : F 20051 = dyNm := rfl
theorem R20051 : R 20051 = dpNm 53 [.str, .int .i64] 2 2 := rfl
theorem F16400 : F 16400 = ixLp dyNm 2 := rfl
theorem R16400 : R 16400 = ixPr (dpNm 53 [.str, .int .i64] 2 2) 2 := rfl
theorem F64 : F 64 = ixFn dyNm 2 := rfl
theorem R64 : R 64 = ixPre (dpNm 53 [.str, .int .i64] 2 2) 2 := rfl
theorem F52 : F 52 = cfFn dyNm 2 := rfl
theorem R52 : R 52 = ixPre (dpNm 53 [.str, .int .i64] 2 2) 2 := rfl
theorem F14300 : F 14300 = lpAr := rfl
theorem R14300 : R 14300 = prArL := rfl
theorem F43 : F 43 = aroundD := rfl
theorem R43 : R 43 = prAr := rfl
theorem F45 : F 45 = depthD := rfl
theorem R45 : R 45 = prAr := rfl
theorem F29 : F 29 = cluD := rfl
theorem R29 : R 29 = prClu := rfl
theorem F30 : F 30 = edgeD := rfl
theorem R30 : R 30 = fun _ => True := rfl
theorem F10900 : F 10900 = lpV0 := rfl
theorem R10900 : R 10900 = prV0 := rfl
theorem F10901 : F 10901 = lpV1 := rfl
theorem R10901 : R 10901 = prV1 := rfl
theorem F10902 : F 10902 = lpV2 := rfl
theorem R10902 : R 10902 = prV2 := rfl
theorem F9 : F 9 = validD := rfl
theorem R9 : R 9 = fun _ => True := rfl
theorem F11200 : F 11200 = lpFind := rfl
theorem R11200 : R 11200 = prFind := rfl
theorem F12 : F 12 = findD := rfl
theorem R12 : R 12 = fun _ => True := rfl
theorem F15600 : F 15600 = lpPlain := rfl
theorem R15600 : R 15600 = prPlain := rfl
theorem F56 : F 56 = plainD := rfl
theorem R56 : R 56 = fun _ => True := rfl
theorem F15701 : F 15701 = lpPortsR := rfl
theorem R15701 : R 15701 = prPortsR := rfl
theorem F15700 : F 15700 = lpPortsI := rfl
theorem R15700 : R 15700 = prPortsI := rfl
theorem F57 : F 57 = portsD := rfl
theorem R57 : R 57 = fun _ => True := rfl
theorem F32 : F 32 = nodeD := rfl
theorem R32 : R 32 = prNode := rfl
theorem F14600 : F 14600 = lpDep := rfl
theorem R14600 : R 14600 = prDep := rfl
theorem F46 : F 46 = depthD := rfl
theorem R46 : R 46 = prAr := rfl
theorem F13300 : F 13300 = lpCluR := rfl
theorem R13300 : R 13300 = prCluR := rfl
theorem F33 : F 33 = cluD := rfl
theorem R33 : R 33 = prClu := rfl
theorem F34 : F 34 = edgeD := rfl
theorem R34 : R 34 = fun _ => True := rfl
theorem F11000 : F 11000 = lpW0 := rfl
theorem R11000 : R 11000 = prW0 := rfl
theorem F11001 : F 11001 = lpW1 := rfl
theorem R11001 : R 11001 = prW1 := rfl
theorem F11002 : F 11002 = lpW2 := rfl
theorem R11002 : R 11002 = prW2 := rfl
theorem F10 : F 10 = validD := rfl
theorem R10 : R 10 = fun _ => True := rfl
theorem F15900 : F 15900 = iiLp := rfl
theorem R15900 : R 15900 = iiPr := rfl
theorem F59 : F 59 = iiFn := rfl
theorem R59 : R 59 = fun _ => True := rfl
theorem F42 : F 42 = ciFn := rfl
theorem R42 : R 42 = fun _ => True := rfl
theorem F11900 : F 11900 = lpMem := rfl
theorem R11900 : R 11900 = prMem := rfl
theorem F19 : F 19 = memD := rfl
theorem R19 : R 19 = fun _ => True := rfl
theorem F14400 : F 14400 = lpHas := rfl
theorem R14400 : R 14400 = prHas := rfl
theorem F44 : F 44 = hasD := rfl
theorem R44 : R 44 = prHasF := rfl
theorem F12000 : F 12000 = lpMemR := rfl
theorem R12000 : R 12000 = prMemR := rfl
theorem F20 : F 20 = memD := rfl
theorem R20 : R 20 = fun _ => True := rfl
theorem F21 : F 21 = depED := rfl
theorem R21 : R 21 = fun _ => True := rfl
theorem F22 : F 22 = depED := rfl
theorem R22 : R 22 = fun _ => True := rfl
theorem F12300 : F 12300 = lpCom := rfl
theorem R12300 : R 12300 = prCom := rfl
theorem F23 : F 23 = comD := rfl
theorem R23 : R 23 = fun _ => True := rfl
theorem F12400 : F 12400 = lpComR := rfl
theorem R12400 : R 12400 = prComR := rfl
theorem F24 : F 24 = comD := rfl
theorem R24 : R 24 = fun _ => True := rfl
theorem F11800 : F 11800 = lpSI := rfl
theorem R11800 : R 11800 = prSI := rfl
theorem F18 : F 18 = eqFn sameI1 := rfl
theorem R18 : R 18 = fun _ => True := rfl
theorem F11300 : F 11300 = lpSA := rfl
theorem R11300 : R 11300 = prSA := rfl
theorem F13 : F 13 = saD := rfl
theorem R13 : R 13 = fun _ => True := rfl
theorem F11400 : F 11400 = lpSk := rfl
theorem R11400 : R 11400 = prSk := rfl
theorem F14 : F 14 = skD := rfl
theorem R14 : R 14 = skPre := rfl
theorem F11500 : F 11500 = lpSkR := rfl
theorem R11500 : R 11500 = prSkR := rfl
theorem F15 : F 15 = skD := rfl
theorem R15 : R 15 = skPre := rfl
theorem F15800 : F 15800 = eqLp sameRow2 := rfl
theorem R15800 : R 15800 = eqPr := rfl
theorem F58 : F 58 = eqFn sameRow2 := rfl
theorem R58 : R 58 = fun _ => True := rfl
theorem F13900 : F 13900 = eqLp sameEdgeB := rfl
theorem R13900 : R 13900 = eqPr := rfl
theorem F39 : F 39 = eqFn sameEdgeB := rfl
theorem R39 : R 39 = fun _ => True := rfl
theorem F14000 : F 14000 = eqLp sameRow2 := rfl
theorem R14000 : R 14000 = eqPr := rfl
theorem F40 : F 40 = eqFn sameRow2 := rfl
theorem R40 : R 40 = fun _ => True := rfl
theorem F38 : F 38 = sameNodeD := rfl
theorem R38 : R 38 = fun _ => True := rfl
theorem F69049 : F 69049 = dySame := rfl
theorem R69049 : R 69049 = dpSame 38 := rfl
theorem F13700 : F 13700 = eqfLp dySame 6 := rfl
theorem R13700 : R 13700 = eqfPr (dpSame 38) 6 := rfl
theorem F37 : F 37 = eqfFn dySame 6 := rfl
theorem R37 : R 37 = eqfPre (dpSame 38) 6 := rfl
theorem F16 : F 16 = sameD := rfl
theorem R16 : R 16 = fun _ => True := rfl
theorem F14100 : F 14100 = lpSN := rfl
theorem R14100 : R 14100 = prSN := rfl
theorem F41 : F 41 = sameNodeD := rfl
theorem R41 : R 41 = fun _ => True := rfl
theorem F11700 : F 11700 = lpS0 := rfl
theorem R11700 : R 11700 = prS0 := rfl
theorem F11701 : F 11701 = lpS1 := rfl
theorem R11701 : R 11701 = prS1 := rfl
theorem F11702 : F 11702 = lpS2 := rfl
theorem R11702 : R 11702 = prS2 := rfl
theorem F17 : F 17 = sameD := rfl
theorem R17 : R 17 = fun _ => True := rfl
theorem F7 : F 7 = smallD := rfl
theorem R7 : R 7 = fun _ => True := rfl
theorem F10700 : F 10700 = lpSmall := rfl
theorem R10700 : R 10700 = prSmall := rfl
theorem F25 : F 25 = hsD := rfl
theorem R25 : R 25 = fun _ => True := rfl
theorem F12500 : F 12500 = lpHs := rfl
theorem R12500 : R 12500 = prHs := rfl
theorem F26 : F 26 = fn26 := rfl
theorem R26 : R 26 = fun _ => True := rfl
theorem F8 : F 8 = one := rfl
theorem R8 : R 8 = fun _ => True := rfl
theorem F10602 : F 10602 = lp6 := rfl
theorem R10602 : R 10602 = pr6 := rfl
theorem F10600 : F 10600 = lpSub := rfl
theorem R10600 : R 10600 = prSub := rfl
theorem F10601 : F 10601 = lpSub := rfl
theorem R10601 : R 10601 = prSub := rfl
end Go.Proofs.Ytjdhicmkkmfcgaa.rv
