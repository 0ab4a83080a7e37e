/-
  Chapter 51: the table of closed forms.
-/
import Derived.Test.YthnilbkkihmpoaaRvGrA
import Derived.Test.YthnilbkkihmpoaaRvHand2
import Derived.Test.YthnilbkkihmpoaaRvHand3
import Derived.Test.YthnilbkkihmpoaaRvCh1
namespace Go.Proofs.Ythnilbkkihmpoaa.rv
open Go.RV

def one (_ : List D) : List D := [.b true]

def F : FuncId → List D → List D := tabOf [(69, fn69), (70, fn70), (15300, lpWord), (53, wordD), (54, fn54), (37, nameD), (77, fn77), (78, fn78), (16200, lpWord), (62, wordD), (63, fn63), (45, nameD), (72, fn72), (20030, dyNm), (17100, ixLp dyNm 6), (71, ixFn dyNm 6), (55, findD), (15600, lpLab), (56, labelD), (57, fn57), (74, fn74), (20076, dyNm), (17900, ixLp dyNm 2), (79, ixFn dyNm 2), (73, cfFn dyNm 2), (15800, lpPorts), (58, ports8D), (38, nodeD), (60, fn60), (20062, dyNm), (17500, ixLp dyNm 2), (75, ixFn dyNm 2), (59, cfFn dyNm 2), (17600, lpAr), (76, aroundD), (61, depthD), (39, cluD), (40, edgeD), (12100, lpV0), (12101, lpV1), (12102, lpV2), (21, validD), (16400, lpFind), (64, findD), (16500, lpPlain), (65, plainD), (16601, lpPortsR), (16600, lpPortsI), (66, portsD), (46, nodeD), (16700, lpDep), (67, depthD), (14700, lpCluR), (47, cluD), (48, edgeD), (12800, lpW0), (12801, lpW1), (12802, lpW2), (28, validD), (13200, lpSN), (32, sameNodeD), (11200, lpS0), (11201, lpS1), (11202, lpS2), (12, sameD), (44, cloneD), (42, cloneD), (43, cloneD), (25, delD), (27, delD), (36, delD), (41, fn41), (22, fn22), (33, fn33), (24, cloneD), (12300, lpCl), (23, cloneD), (12600, lpWi), (26, wiD), (10, applyD), (11300, lpIv), (13, invD), (11600, lpRun), (16, runD), (11800, lpK0), (11801, lpK1), (18, keptD), (49, fn49), (50, fn50), (29, fn29), (30, fn30), (68, fn68), (15100, lpRm0), (15101, lpRm1), (51, rmD), (15200, lpCh), (52, chD), (31, doneD), (11, applyD), (13400, lpRt), (34, rtD), (14, invD), (11700, lpRunR), (17, runD), (11900, lpK0r), (11901, lpK1r), (19, keptD), (13500, lpE2 sameRow2), (35, eqFn sameRow2), (11500, lpE2 sameEditB), (15, eqFn sameEditB), (12000, lpE2 sameI1), (20, eqFn sameI1), (10800, lpFw0), (10801, lpFw1), (8, fewD), (9, one), (10700, lpKp)]
def R : FuncId → List D → Prop := tabP [(15300, prWord), (16200, prWord), (20030, dpNm 72 [.str] 1 6), (17100, ixPr (dpNm 72 [.str] 1 6) 6), (71, ixPre (dpNm 72 [.str] 1 6) 6), (15600, prLab), (20076, dpNm 74 [.str, .int .i64] 2 2), (17900, ixPr (dpNm 74 [.str, .int .i64] 2 2) 2), (79, ixPre (dpNm 74 [.str, .int .i64] 2 2) 2), (73, ixPre (dpNm 74 [.str, .int .i64] 2 2) 2), (15800, prPorts), (38, prNode), (20062, dpNm 60 [.str, .int .i64] 2 2), (17500, ixPr (dpNm 60 [.str, .int .i64] 2 2) 2), (75, ixPre (dpNm 60 [.str, .int .i64] 2 2) 2), (59, ixPre (dpNm 60 [.str, .int .i64] 2 2) 2), (17600, prArL), (76, prAr), (61, prAr), (39, prClu), (12100, prV0), (12101, prV1), (12102, prV2), (16400, prFind), (16500, prPlain), (16601, prPortsR), (16600, prPortsI), (46, prNode), (16700, prDep), (67, prAr), (14700, prCluR), (47, prClu), (12800, prW0), (12801, prW1), (12802, prW2), (13200, prSN), (11200, prS0), (11201, prS1), (11202, prS2), (44, clonePre), (42, clonePre), (43, clonePre), (25, delPre), (27, delPre), (36, delPre), (24, prCopy), (12300, prCl), (23, prCloneG), (12600, prWiL), (26, prWi), (10, prApply), (11300, prIv), (13, prApply), (11600, prRunL), (16, prRun), (11800, prK0), (11801, prK1), (18, prKept), (15100, prRm0), (15101, prRm1), (51, prAt), (15200, prCh), (52, prAt), (31, prDone), (13400, prRt), (34, prRtF), (11700, prRunR), (11900, prK0r), (11901, prK1r), (19, prKept), (13500, prE2), (11500, prE2), (12000, prE2), (10800, prFw0), (10801, prFw1), (10700, prKp)]
theorem F69 : F 69 = fn69 := rfl
theorem R69 : R 69 = fun _ => True := rfl
theorem F70 : F 70 = fn70 := rfl
theorem R70 : R 70 = fun _ => True := rfl
theorem F15300 : F 15300 = lpWord := rfl
theorem R15300 : R 15300 = prWord := rfl
theorem F53 : F 53 = wordD := rfl
theorem R53 : R 53 = fun _ => True := rfl
theorem F54 : F 54 = fn54 := rfl
theorem R54 : R 54 = fun _ => True := rfl
theorem F37 : F 37 = nameD := rfl
theorem R37 : R 37 = fun _ => True := rfl
theorem F77 : F 77 = fn77 := rfl
theorem R77 : R 77 = fun _ => True := rfl
theorem F78 : F 78 = fn78 := rfl
theorem R78 : R 78 = fun _ => True := rfl
theorem F16200 : F 16200 = lpWord := rfl
theorem R16200 : R 16200 = prWord := rfl
theorem F62 : F 62 = wordD := rfl
theorem R62 : R 62 = fun _ => True := rfl
theorem F63 : F 63 = fn63 := rfl
theorem R63 : R 63 = fun _ => True := rfl
theorem F45 : F 45 = nameD := rfl
theorem R45 : R 45 = fun _ => True := rfl
theorem F72 : F 72 = fn72 := rfl
theorem R72 : R 72 = fun _ => True := rfl
theorem F20030 : F 20030 = dyNm := rfl
theorem R20030 : R 20030 = dpNm 72 [.str] 1 6 := rfl
theorem F17100 : F 17100 = ixLp dyNm 6 := rfl
theorem R17100 : R 17100 = ixPr (dpNm 72 [.str] 1 6) 6 := rfl
theorem F71 : F 71 = ixFn dyNm 6 := rfl
theorem R71 : R 71 = ixPre (dpNm 72 [.str] 1 6) 6 := rfl
theorem F55 : F 55 = findD := rfl
theorem R55 : R 55 = fun _ => True := rfl
theorem F15600 : F 15600 = lpLab := rfl
theorem R15600 : R 15600 = prLab := rfl
theorem F56 : F 56 = labelD := rfl
theorem R56 : R 56 = fun _ => True := rfl
theorem F57 : F 57 = fn57 := rfl
theorem R57 : R 57 = fun _ => True := rfl
theorem F74 : F 74 = fn74 := rfl
theorem R74 : R 74 = fun _ => True := rfl
theorem F20076 : F 20076 = dyNm := rfl
theorem R20076 : R 20076 = dpNm 74 [.str, .int .i64] 2 2 := rfl
theorem F17900 : F 17900 = ixLp dyNm 2 := rfl
theorem R17900 : R 17900 = ixPr (dpNm 74 [.str, .int .i64] 2 2) 2 := rfl
theorem F79 : F 79 = ixFn dyNm 2 := rfl
theorem R79 : R 79 = ixPre (dpNm 74 [.str, .int .i64] 2 2) 2 := rfl
theorem F73 : F 73 = cfFn dyNm 2 := rfl
theorem R73 : R 73 = ixPre (dpNm 74 [.str, .int .i64] 2 2) 2 := rfl
theorem F15800 : F 15800 = lpPorts := rfl
theorem R15800 : R 15800 = prPorts := rfl
theorem F58 : F 58 = ports8D := rfl
theorem R58 : R 58 = fun _ => True := rfl
theorem F38 : F 38 = nodeD := rfl
theorem R38 : R 38 = prNode := rfl
theorem F60 : F 60 = fn60 := rfl
theorem R60 : R 60 = fun _ => True := rfl
theorem F20062 : F 20062 = dyNm := rfl
theorem R20062 : R 20062 = dpNm 60 [.str, .int .i64] 2 2 := rfl
theorem F17500 : F 17500 = ixLp dyNm 2 := rfl
theorem R17500 : R 17500 = ixPr (dpNm 60 [.str, .int .i64] 2 2) 2 := rfl
theorem F75 : F 75 = ixFn dyNm 2 := rfl
theorem R75 : R 75 = ixPre (dpNm 60 [.str, .int .i64] 2 2) 2 := rfl
theorem F59 : F 59 = cfFn dyNm 2 := rfl
theorem R59 : R 59 = ixPre (dpNm 60 [.str, .int .i64] 2 2) 2 := rfl
theorem F17600 : F 17600 = lpAr := rfl
theorem R17600 : R 17600 = prArL := rfl
theorem F76 : F 76 = aroundD := rfl
theorem R76 : R 76 = prAr := rfl
theorem F61 : F 61 = depthD := rfl
theorem R61 : R 61 = prAr := rfl
theorem F39 : F 39 = cluD := rfl
theorem R39 : R 39 = prClu := rfl
theorem F40 : F 40 = edgeD := rfl
theorem R40 : R 40 = fun _ => True := rfl
theorem F12100 : F 12100 = lpV0 := rfl
theorem R12100 : R 12100 = prV0 := rfl
theorem F12101 : F 12101 = lpV1 := rfl
theorem R12101 : R 12101 = prV1 := rfl
theorem F12102 : F 12102 = lpV2 := rfl
theorem R12102 : R 12102 = prV2 := rfl
theorem F21 : F 21 = validD := rfl
theorem R21 : R 21 = fun _ => True := rfl
theorem F16400 : F 16400 = lpFind := rfl
theorem R16400 : R 16400 = prFind := rfl
theorem F64 : F 64 = findD := rfl
theorem R64 : R 64 = fun _ => True := rfl
theorem F16500 : F 16500 = lpPlain := rfl
theorem R16500 : R 16500 = prPlain := rfl
theorem F65 : F 65 = plainD := rfl
theorem R65 : R 65 = fun _ => True := rfl
theorem F16601 : F 16601 = lpPortsR := rfl
theorem R16601 : R 16601 = prPortsR := rfl
theorem F16600 : F 16600 = lpPortsI := rfl
theorem R16600 : R 16600 = prPortsI := rfl
theorem F66 : F 66 = portsD := rfl
theorem R66 : R 66 = fun _ => True := rfl
theorem F46 : F 46 = nodeD := rfl
theorem R46 : R 46 = prNode := rfl
theorem F16700 : F 16700 = lpDep := rfl
theorem R16700 : R 16700 = prDep := rfl
theorem F67 : F 67 = depthD := rfl
theorem R67 : R 67 = prAr := rfl
theorem F14700 : F 14700 = lpCluR := rfl
theorem R14700 : R 14700 = prCluR := rfl
theorem F47 : F 47 = cluD := rfl
theorem R47 : R 47 = prClu := rfl
theorem F48 : F 48 = edgeD := rfl
theorem R48 : R 48 = fun _ => True := rfl
theorem F12800 : F 12800 = lpW0 := rfl
theorem R12800 : R 12800 = prW0 := rfl
theorem F12801 : F 12801 = lpW1 := rfl
theorem R12801 : R 12801 = prW1 := rfl
theorem F12802 : F 12802 = lpW2 := rfl
theorem R12802 : R 12802 = prW2 := rfl
theorem F28 : F 28 = validD := rfl
theorem R28 : R 28 = fun _ => True := rfl
theorem F13200 : F 13200 = lpSN := rfl
theorem R13200 : R 13200 = prSN := rfl
theorem F32 : F 32 = sameNodeD := rfl
theorem R32 : R 32 = fun _ => True := rfl
theorem F11200 : F 11200 = lpS0 := rfl
theorem R11200 : R 11200 = prS0 := rfl
theorem F11201 : F 11201 = lpS1 := rfl
theorem R11201 : R 11201 = prS1 := rfl
theorem F11202 : F 11202 = lpS2 := rfl
theorem R11202 : R 11202 = prS2 := rfl
theorem F12 : F 12 = sameD := rfl
theorem R12 : R 12 = fun _ => True := rfl
theorem F44 : F 44 = cloneD := rfl
theorem R44 : R 44 = clonePre := rfl
theorem F42 : F 42 = cloneD := rfl
theorem R42 : R 42 = clonePre := rfl
theorem F43 : F 43 = cloneD := rfl
theorem R43 : R 43 = clonePre := rfl
theorem F25 : F 25 = delD := rfl
theorem R25 : R 25 = delPre := rfl
theorem F27 : F 27 = delD := rfl
theorem R27 : R 27 = delPre := rfl
theorem F36 : F 36 = delD := rfl
theorem R36 : R 36 = delPre := rfl
theorem F41 : F 41 = fn41 := rfl
theorem R41 : R 41 = fun _ => True := rfl
theorem F22 : F 22 = fn22 := rfl
theorem R22 : R 22 = fun _ => True := rfl
theorem F33 : F 33 = fn33 := rfl
theorem R33 : R 33 = fun _ => True := rfl
theorem F24 : F 24 = cloneD := rfl
theorem R24 : R 24 = prCopy := rfl
theorem F12300 : F 12300 = lpCl := rfl
theorem R12300 : R 12300 = prCl := rfl
theorem F23 : F 23 = cloneD := rfl
theorem R23 : R 23 = prCloneG := rfl
theorem F12600 : F 12600 = lpWi := rfl
theorem R12600 : R 12600 = prWiL := rfl
theorem F26 : F 26 = wiD := rfl
theorem R26 : R 26 = prWi := rfl
theorem F10 : F 10 = applyD := rfl
theorem R10 : R 10 = prApply := rfl
theorem F11300 : F 11300 = lpIv := rfl
theorem R11300 : R 11300 = prIv := rfl
theorem F13 : F 13 = invD := rfl
theorem R13 : R 13 = prApply := rfl
theorem F11600 : F 11600 = lpRun := rfl
theorem R11600 : R 11600 = prRunL := rfl
theorem F16 : F 16 = runD := rfl
theorem R16 : R 16 = prRun := rfl
theorem F11800 : F 11800 = lpK0 := rfl
theorem R11800 : R 11800 = prK0 := rfl
theorem F11801 : F 11801 = lpK1 := rfl
theorem R11801 : R 11801 = prK1 := rfl
theorem F18 : F 18 = keptD := rfl
theorem R18 : R 18 = prKept := rfl
theorem F49 : F 49 = fn49 := rfl
theorem R49 : R 49 = fun _ => True := rfl
theorem F50 : F 50 = fn50 := rfl
theorem R50 : R 50 = fun _ => True := rfl
theorem F29 : F 29 = fn29 := rfl
theorem R29 : R 29 = fun _ => True := rfl
theorem F30 : F 30 = fn30 := rfl
theorem R30 : R 30 = fun _ => True := rfl
theorem F68 : F 68 = fn68 := rfl
theorem R68 : R 68 = fun _ => True := rfl
theorem F15100 : F 15100 = lpRm0 := rfl
theorem R15100 : R 15100 = prRm0 := rfl
theorem F15101 : F 15101 = lpRm1 := rfl
theorem R15101 : R 15101 = prRm1 := rfl
theorem F51 : F 51 = rmD := rfl
theorem R51 : R 51 = prAt := rfl
theorem F15200 : F 15200 = lpCh := rfl
theorem R15200 : R 15200 = prCh := rfl
theorem F52 : F 52 = chD := rfl
theorem R52 : R 52 = prAt := rfl
theorem F31 : F 31 = doneD := rfl
theorem R31 : R 31 = prDone := rfl
theorem F11 : F 11 = applyD := rfl
theorem R11 : R 11 = fun _ => True := rfl
theorem F13400 : F 13400 = lpRt := rfl
theorem R13400 : R 13400 = prRt := rfl
theorem F34 : F 34 = rtD := rfl
theorem R34 : R 34 = prRtF := rfl
theorem F14 : F 14 = invD := rfl
theorem R14 : R 14 = fun _ => True := rfl
theorem F11700 : F 11700 = lpRunR := rfl
theorem R11700 : R 11700 = prRunR := rfl
theorem F17 : F 17 = runD := rfl
theorem R17 : R 17 = fun _ => True := rfl
theorem F11900 : F 11900 = lpK0r := rfl
theorem R11900 : R 11900 = prK0r := rfl
theorem F11901 : F 11901 = lpK1r := rfl
theorem R11901 : R 11901 = prK1r := rfl
theorem F19 : F 19 = keptD := rfl
theorem R19 : R 19 = prKept := rfl
theorem F13500 : F 13500 = lpE2 sameRow2 := rfl
theorem R13500 : R 13500 = prE2 := rfl
theorem F35 : F 35 = eqFn sameRow2 := rfl
theorem R35 : R 35 = fun _ => True := rfl
theorem F11500 : F 11500 = lpE2 sameEditB := rfl
theorem R11500 : R 11500 = prE2 := rfl
theorem F15 : F 15 = eqFn sameEditB := rfl
theorem R15 : R 15 = fun _ => True := rfl
theorem F12000 : F 12000 = lpE2 sameI1 := rfl
theorem R12000 : R 12000 = prE2 := rfl
theorem F20 : F 20 = eqFn sameI1 := rfl
theorem R20 : R 20 = fun _ => True := rfl
theorem F10800 : F 10800 = lpFw0 := rfl
theorem R10800 : R 10800 = prFw0 := rfl
theorem F10801 : F 10801 = lpFw1 := rfl
theorem R10801 : R 10801 = prFw1 := rfl
theorem F8 : F 8 = fewD := rfl
theorem R8 : R 8 = fun _ => True := rfl
theorem F9 : F 9 = one := rfl
theorem R9 : R 9 = fun _ => True := rfl
theorem F10700 : F 10700 = lpKp := rfl
theorem R10700 : R 10700 = prKp := rfl
end Go.Proofs.Ythnilbkkihmpoaa.rv
