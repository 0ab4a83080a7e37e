/-
  Chapter 47: the table of closed forms.; Points and boxes: small functions of the program and the reference.; Boxes: overlap, inflate, options, function values of boxes, unions.; Lists of boxes: searches, unions.; Packing: checks, shelves, extents.; Packing: the best of several widths.; Nested clusters: own nodes, children, blocks, parts.; Nested clusters: the parts of a cluster, packed.; Nested clusters: the parts of a cluster, packed: the function.
-/
import Derived.Test.YtindllmeeckfcaaZCompoundPlacesK
namespace Go.Proofs.Ytindllmeeckfcaa.rv
set_option maxRecDepth 10000
open Go.RV
def one (_ : List D) : List D := [.b true]
def F : FuncId → List D → List D := tabOf [(102, fn102), (103, fn103), (17900, lpWord), (79, wordD), (80, fn80), (52, nameD), (109, fn109), (110, fn110), (19100, lpWord), (91, wordD), (92, fn92), (68, nameD), (105, fn105), (20039, dyNm), (20400, ixLp dyNm 6), (104, ixFn dyNm 6), (81, findD), (18200, lpLab), (82, labelD), (83, fn83), (107, fn107), (20054, dyNm), (21100, ixLp dyNm 2), (111, ixFn dyNm 2), (106, cfFn dyNm 2), (18400, lpPorts), (84, ports8D), (53, nodeD), (86, fn86), (20051, dyNm), (20800, ixLp dyNm 2), (108, ixFn dyNm 2), (85, cfFn dyNm 2), (18900, lpAr), (89, aroundD), (87, depthD), (54, cluD), (55, edgeD), (12600, lpV0), (12601, lpV1), (12602, lpV2), (26, validD), (19300, lpFind), (93, findD), (19400, lpPlain), (94, plainD), (19501, lpPortsR), (19500, lpPortsI), (95, portsD), (69, nodeD), (19600, lpDep), (96, depthD), (17000, lpCluR), (70, cluD), (71, edgeD), (14200, lpW0), (14201, lpW1), (14202, lpW2), (42, validD), (19000, iiLp), (90, iiFn), (61, ciFn), (16000, lpMem), (60, memD), (19800, lpHas), (98, hasD), (17400, lpMemR), (74, memD), (47, fn47), (67, fn67), (17, fn17), (36, fn36), (88, fn88), (18, fn18), (63, fn63), (58, fn58), (73, fn73), (57, fn57), (72, fn72), (97, fn97), (29, fn29), (21, fn21), (40, fn40), (28, fn28), (43, fn43), (24, fn24), (27, fn27), (59, fn59), (77, fn77), (15000, lpUn), (50, uniD), (13500, lpUr), (35, uniD), (19900, lpCk), (99, chkD), (16400, lpCr), (64, chkD), (20000, lpSh), (100, shD), (16500, lpSr), (65, shelvesD), (20100, lpEx), (101, extD), (16600, lpEr), (66, extD), (17800, lpBe), (78, bestD), (13300, lpBf), (33, bestD), (20041, dyBx), (15100, ixLp dyBx 4), (51, ixFn dyBx 4), (25, cfFn dyBx 4), (12200, lpOw), (22, ownCD), (13800, lpOr), (38, ownRD), (14100, lpKr), (41, kidRD), (13900, lpBr2), (39, blkRD), (13400, lpPr), (34, partRD), (12300, lpBc2), (23, blkCD), (14900, lpPk), (14901, lpPl), (49, packD), (14800, lpA0), (14801, lpA1), (48, inD), (13200, lpR0), (13202, lpR1), (13201, lpR2), (32, inD), (11900, lpAr2), (19, planD), (11200, lpSz), (12, sizesD), (11300, lpRs), (13, sizesD), (12050, lpPn), (12051, lpPt), (17020000, pcPu), (11000, lpP0), (10, placeD), (11500, lpQn), (11501, lpQk), (11502, lpQ0), (11503, lpQv), (11504, lpQv), (15, placeD), (11100, lpSs), (56, okInD), (13000, lpI0), (13001, lpI1), (30, withD), (16200, lpHas), (62, conD), (13100, lpV3), (13103, lpMx), (13101, lpMn), (13102, lpMc), (31, apD), (11, chD), (11600, lpT0), (11601, lpT1), (11602, lpT2), (45, okIrD), (14400, lpZd), (44, zdD), (14601, lpO0), (14600, lpO1), (14604, lpO2), (14602, lpO3), (14603, lpO4), (46, overD), (17500, lpHs), (75, hsD), (17600, lpIn), (76, innD), (16, chD), (13700, lpS4), (37, sameLD), (14, sameLD), (10801, lpF0), (10800, lpF1), (10802, lpF2), (10803, lpF3), (8, fewGD), (9, one), (10300, lpX1), (10301, lpX0), (10700, lpW1'), (10701, lpW2'), (10702, lpW0')]
def R : FuncId → List D → Prop := tabP [(17900, prWord), (19100, prWord), (20039, dpNm 105 [.str] 1 6), (20400, ixPr (dpNm 105 [.str] 1 6) 6), (104, ixPre (dpNm 105 [.str] 1 6) 6), (18200, prLab), (20054, dpNm 107 [.str, .int .i64] 2 2), (21100, ixPr (dpNm 107 [.str, .int .i64] 2 2) 2), (111, ixPre (dpNm 107 [.str, .int .i64] 2 2) 2), (106, ixPre (dpNm 107 [.str, .int .i64] 2 2) 2), (18400, prPorts), (53, prNode), (20051, dpNm 86 [.str, .int .i64] 2 2), (20800, ixPr (dpNm 86 [.str, .int .i64] 2 2) 2), (108, ixPre (dpNm 86 [.str, .int .i64] 2 2) 2), (85, ixPre (dpNm 86 [.str, .int .i64] 2 2) 2), (18900, prArL), (89, prAr), (87, prAr), (54, prClu), (12600, prV0), (12601, prV1), (12602, prV2), (19300, prFind), (19400, prPlain), (19501, prPortsR), (19500, prPortsI), (69, prNode), (19600, prDep), (96, prAr), (17000, prCluR), (70, prClu), (14200, prW0), (14201, prW1), (14202, prW2), (19000, iiPr), (16000, prMem), (19800, prHas), (98, prHasF), (17400, prMemR), (15000, prUn), (13500, prUr), (19900, prCk), (99, chkPre), (16400, prCr), (64, chkPre), (20000, prSh), (100, shPre), (16500, prSr), (65, chkPre), (20100, prEx), (101, extPre), (16600, prEr), (66, extPre), (17800, prBe), (78, bestPre), (13300, prBf), (33, bestPre), (20041, dpBx 24 27 59 77), (15100, ixPr (dpBx 24 27 59 77) 4), (51, ixPre (dpBx 24 27 59 77) 4), (25, ixPre (dpBx 24 27 59 77) 4), (12200, prOw), (22, ownCP), (13800, prOr), (38, ownRP), (14100, prKr), (41, kidRP), (13900, prBr2), (39, blkRP), (13400, prPr), (34, partRP), (12300, prBc2), (23, blkCP), (14900, prPk), (14901, prPl), (49, ownCP), (14800, prA0), (14801, prA1), (13200, prR0), (13202, prR1), (13201, prR2), (11900, prAr2), (11200, prSz), (11300, prRs), (12050, prPn), (12051, prPt), (17020000, prPu), (11000, prP0), (11500, prQn), (11501, prQk), (11502, prQ0), (11503, prQv), (11504, prQv), (11100, prSs), (56, okInP), (13000, prI0), (13001, prI1), (30, withP), (16200, prHas), (62, conP), (13100, prV3), (13103, prMx), (13101, prMn), (13102, prMc), (31, apP), (11600, prT0), (11601, prT1), (11602, prT2), (45, okIrP), (14400, prZd), (14601, prZd), (14600, prO1), (14604, prO2), (14602, prO3), (14603, prO4), (46, apP), (17500, prHs), (17600, prIn), (76, innP), (13700, prS4), (10801, prF0), (10800, prF1), (10802, prF2), (10803, prF3), (8, fewGP), (10300, prX1), (10301, prX0), (10700, prW1'), (10701, prW2'), (10702, prW0')]
theorem F102 : F 102 = fn102 := rfl
theorem R102 : R 102 = fun _ => True := rfl
theorem F103 : F 103 = fn103 := rfl
theorem R103 : R 103 = fun _ => True := rfl
theorem F17900 : F 17900 = lpWord := rfl
theorem R17900 : R 17900 = prWord := rfl
theorem F79 : F 79 = wordD := rfl
theorem R79 : R 79 = fun _ => True := rfl
theorem F80 : F 80 = fn80 := rfl
theorem R80 : R 80 = fun _ => True := rfl
theorem F52 : F 52 = nameD := rfl
theorem R52 : R 52 = fun _ => True := rfl
theorem F109 : F 109 = fn109 := rfl
theorem R109 : R 109 = fun _ => True := rfl
theorem F110 : F 110 = fn110 := rfl
theorem R110 : R 110 = fun _ => True := rfl
theorem F19100 : F 19100 = lpWord := rfl
theorem R19100 : R 19100 = prWord := rfl
theorem F91 : F 91 = wordD := rfl
theorem R91 : R 91 = fun _ => True := rfl
theorem F92 : F 92 = fn92 := rfl
theorem R92 : R 92 = fun _ => True := rfl
theorem F68 : F 68 = nameD := rfl
theorem R68 : R 68 = fun _ => True := rfl
theorem F20039 : F 20039 = dyNm := rfl
theorem R20039 : R 20039 = dpNm 105 [.str] 1 6 := rfl
theorem F20400 : F 20400 = ixLp dyNm 6 := rfl
theorem R20400 : R 20400 = ixPr (dpNm 105 [.str] 1 6) 6 := rfl
theorem F104 : F 104 = ixFn dyNm 6 := rfl
theorem R104 : R 104 = ixPre (dpNm 105 [.str] 1 6) 6 := rfl
theorem F81 : F 81 = findD := rfl
theorem R81 : R 81 = fun _ => True := rfl
theorem F18200 : F 18200 = lpLab := rfl
theorem R18200 : R 18200 = prLab := rfl
theorem F82 : F 82 = labelD := rfl
theorem R82 : R 82 = fun _ => True := rfl
theorem F83 : F 83 = fn83 := rfl
theorem R83 : R 83 = fun _ => True := rfl
theorem F20054 : F 20054 = dyNm := rfl
theorem R20054 : R 20054 = dpNm 107 [.str, .int .i64] 2 2 := rfl
theorem F21100 : F 21100 = ixLp dyNm 2 := rfl
theorem R21100 : R 21100 = ixPr (dpNm 107 [.str, .int .i64] 2 2) 2 := rfl
theorem F111 : F 111 = ixFn dyNm 2 := rfl
theorem R111 : R 111 = ixPre (dpNm 107 [.str, .int .i64] 2 2) 2 := rfl
theorem F106 : F 106 = cfFn dyNm 2 := rfl
theorem R106 : R 106 = ixPre (dpNm 107 [.str, .int .i64] 2 2) 2 := rfl
theorem F18400 : F 18400 = lpPorts := rfl
theorem R18400 : R 18400 = prPorts := rfl
theorem F84 : F 84 = ports8D := rfl
theorem R84 : R 84 = fun _ => True := rfl
theorem F53 : F 53 = nodeD := rfl
theorem R53 : R 53 = prNode := rfl
theorem F20051 : F 20051 = dyNm := rfl
theorem R20051 : R 20051 = dpNm 86 [.str, .int .i64] 2 2 := rfl
theorem F20800 : F 20800 = ixLp dyNm 2 := rfl
theorem R20800 : R 20800 = ixPr (dpNm 86 [.str, .int .i64] 2 2) 2 := rfl
theorem F108 : F 108 = ixFn dyNm 2 := rfl
theorem R108 : R 108 = ixPre (dpNm 86 [.str, .int .i64] 2 2) 2 := rfl
theorem F85 : F 85 = cfFn dyNm 2 := rfl
theorem R85 : R 85 = ixPre (dpNm 86 [.str, .int .i64] 2 2) 2 := rfl
theorem F18900 : F 18900 = lpAr := rfl
theorem R18900 : R 18900 = prArL := rfl
theorem F89 : F 89 = aroundD := rfl
theorem R89 : R 89 = prAr := rfl
theorem F87 : F 87 = depthD := rfl
theorem R87 : R 87 = prAr := rfl
theorem F54 : F 54 = cluD := rfl
theorem R54 : R 54 = prClu := rfl
theorem F55 : F 55 = edgeD := rfl
theorem R55 : R 55 = fun _ => True := rfl
theorem F12600 : F 12600 = lpV0 := rfl
theorem R12600 : R 12600 = prV0 := rfl
theorem F12601 : F 12601 = lpV1 := rfl
theorem R12601 : R 12601 = prV1 := rfl
theorem F12602 : F 12602 = lpV2 := rfl
theorem R12602 : R 12602 = prV2 := rfl
theorem F26 : F 26 = validD := rfl
theorem R26 : R 26 = fun _ => True := rfl
theorem F19300 : F 19300 = lpFind := rfl
theorem R19300 : R 19300 = prFind := rfl
theorem F93 : F 93 = findD := rfl
theorem R93 : R 93 = fun _ => True := rfl
theorem F19400 : F 19400 = lpPlain := rfl
theorem R19400 : R 19400 = prPlain := rfl
theorem F94 : F 94 = plainD := rfl
theorem R94 : R 94 = fun _ => True := rfl
theorem F19501 : F 19501 = lpPortsR := rfl
theorem R19501 : R 19501 = prPortsR := rfl
theorem F19500 : F 19500 = lpPortsI := rfl
theorem R19500 : R 19500 = prPortsI := rfl
theorem F95 : F 95 = portsD := rfl
theorem R95 : R 95 = fun _ => True := rfl
theorem F69 : F 69 = nodeD := rfl
theorem R69 : R 69 = prNode := rfl
theorem F19600 : F 19600 = lpDep := rfl
theorem R19600 : R 19600 = prDep := rfl
theorem F96 : F 96 = depthD := rfl
theorem R96 : R 96 = prAr := rfl
theorem F17000 : F 17000 = lpCluR := rfl
theorem R17000 : R 17000 = prCluR := rfl
theorem F70 : F 70 = cluD := rfl
theorem R70 : R 70 = prClu := rfl
theorem F71 : F 71 = edgeD := rfl
theorem R71 : R 71 = fun _ => True := rfl
theorem F14200 : F 14200 = lpW0 := rfl
theorem R14200 : R 14200 = prW0 := rfl
theorem F14201 : F 14201 = lpW1 := rfl
theorem R14201 : R 14201 = prW1 := rfl
theorem F14202 : F 14202 = lpW2 := rfl
theorem R14202 : R 14202 = prW2 := rfl
theorem F42 : F 42 = validD := rfl
theorem R42 : R 42 = fun _ => True := rfl
theorem F19000 : F 19000 = iiLp := rfl
theorem R19000 : R 19000 = iiPr := rfl
theorem F90 : F 90 = iiFn := rfl
theorem R90 : R 90 = fun _ => True := rfl
theorem F61 : F 61 = ciFn := rfl
theorem R61 : R 61 = fun _ => True := rfl
theorem F16000 : F 16000 = lpMem := rfl
theorem R16000 : R 16000 = prMem := rfl
theorem F60 : F 60 = memD := rfl
theorem R60 : R 60 = fun _ => True := rfl
theorem F17 : F 17 = fn17 := rfl
theorem R17 : R 17 = fun _ => True := rfl
theorem F36 : F 36 = fn36 := rfl
theorem R36 : R 36 = fun _ => True := rfl
theorem F18 : F 18 = fn18 := rfl
theorem R18 : R 18 = fun _ => True := rfl
theorem F63 : F 63 = fn63 := rfl
theorem R63 : R 63 = fun _ => True := rfl
theorem F58 : F 58 = fn58 := rfl
theorem R58 : R 58 = fun _ => True := rfl
theorem F57 : F 57 = fn57 := rfl
theorem R57 : R 57 = fun _ => True := rfl
theorem F29 : F 29 = fn29 := rfl
theorem R29 : R 29 = fun _ => True := rfl
theorem F21 : F 21 = fn21 := rfl
theorem R21 : R 21 = fun _ => True := rfl
theorem F40 : F 40 = fn40 := rfl
theorem R40 : R 40 = fun _ => True := rfl
theorem F28 : F 28 = fn28 := rfl
theorem R28 : R 28 = fun _ => True := rfl
theorem F43 : F 43 = fn43 := rfl
theorem R43 : R 43 = fun _ => True := rfl
theorem F15000 : F 15000 = lpUn := rfl
theorem R15000 : R 15000 = prUn := rfl
theorem F50 : F 50 = uniD := rfl
theorem R50 : R 50 = fun _ => True := rfl
theorem F13500 : F 13500 = lpUr := rfl
theorem R13500 : R 13500 = prUr := rfl
theorem F35 : F 35 = uniD := rfl
theorem R35 : R 35 = fun _ => True := rfl
theorem F19900 : F 19900 = lpCk := rfl
theorem R19900 : R 19900 = prCk := rfl
theorem F99 : F 99 = chkD := rfl
theorem R99 : R 99 = chkPre := rfl
theorem F16400 : F 16400 = lpCr := rfl
theorem R16400 : R 16400 = prCr := rfl
theorem F64 : F 64 = chkD := rfl
theorem R64 : R 64 = chkPre := rfl
theorem F20000 : F 20000 = lpSh := rfl
theorem R20000 : R 20000 = prSh := rfl
theorem F100 : F 100 = shD := rfl
theorem R100 : R 100 = shPre := rfl
theorem F16500 : F 16500 = lpSr := rfl
theorem R16500 : R 16500 = prSr := rfl
theorem F65 : F 65 = shelvesD := rfl
theorem R65 : R 65 = chkPre := rfl
theorem F20100 : F 20100 = lpEx := rfl
theorem R20100 : R 20100 = prEx := rfl
theorem F101 : F 101 = extD := rfl
theorem R101 : R 101 = extPre := rfl
theorem F16600 : F 16600 = lpEr := rfl
theorem R16600 : R 16600 = prEr := rfl
theorem F66 : F 66 = extD := rfl
theorem R66 : R 66 = extPre := rfl
theorem F17800 : F 17800 = lpBe := rfl
theorem R17800 : R 17800 = prBe := rfl
theorem F78 : F 78 = bestD := rfl
theorem R78 : R 78 = bestPre := rfl
theorem F13300 : F 13300 = lpBf := rfl
theorem R13300 : R 13300 = prBf := rfl
theorem F33 : F 33 = bestD := rfl
theorem R33 : R 33 = bestPre := rfl
theorem F20041 : F 20041 = dyBx := rfl
theorem R20041 : R 20041 = dpBx 24 27 59 77 := rfl
theorem F15100 : F 15100 = ixLp dyBx 4 := rfl
theorem R15100 : R 15100 = ixPr (dpBx 24 27 59 77) 4 := rfl
theorem F51 : F 51 = ixFn dyBx 4 := rfl
theorem R51 : R 51 = ixPre (dpBx 24 27 59 77) 4 := rfl
theorem F25 : F 25 = cfFn dyBx 4 := rfl
theorem R25 : R 25 = ixPre (dpBx 24 27 59 77) 4 := rfl
theorem F12200 : F 12200 = lpOw := rfl
theorem R12200 : R 12200 = prOw := rfl
theorem F22 : F 22 = ownCD := rfl
theorem R22 : R 22 = ownCP := rfl
theorem F13800 : F 13800 = lpOr := rfl
theorem R13800 : R 13800 = prOr := rfl
theorem F38 : F 38 = ownRD := rfl
theorem R38 : R 38 = ownRP := rfl
theorem F14100 : F 14100 = lpKr := rfl
theorem R14100 : R 14100 = prKr := rfl
theorem F41 : F 41 = kidRD := rfl
theorem R41 : R 41 = kidRP := rfl
theorem F13900 : F 13900 = lpBr2 := rfl
theorem R13900 : R 13900 = prBr2 := rfl
theorem F39 : F 39 = blkRD := rfl
theorem R39 : R 39 = blkRP := rfl
theorem F13400 : F 13400 = lpPr := rfl
theorem R13400 : R 13400 = prPr := rfl
theorem F34 : F 34 = partRD := rfl
theorem R34 : R 34 = partRP := rfl
theorem F12300 : F 12300 = lpBc2 := rfl
theorem R12300 : R 12300 = prBc2 := rfl
theorem F23 : F 23 = blkCD := rfl
theorem R23 : R 23 = blkCP := rfl
theorem F14900 : F 14900 = lpPk := rfl
theorem R14900 : R 14900 = prPk := rfl
theorem F14901 : F 14901 = lpPl := rfl
theorem R14901 : R 14901 = prPl := rfl
theorem F49 : F 49 = packD := rfl
theorem R49 : R 49 = ownCP := rfl
theorem F14800 : F 14800 = lpA0 := rfl
theorem R14800 : R 14800 = prA0 := rfl
theorem F14801 : F 14801 = lpA1 := rfl
theorem R14801 : R 14801 = prA1 := rfl
theorem F48 : F 48 = inD := rfl
theorem R48 : R 48 = fun _ => True := rfl
theorem F13200 : F 13200 = lpR0 := rfl
theorem R13200 : R 13200 = prR0 := rfl
theorem F13202 : F 13202 = lpR1 := rfl
theorem R13202 : R 13202 = prR1 := rfl
theorem F13201 : F 13201 = lpR2 := rfl
theorem R13201 : R 13201 = prR2 := rfl
theorem F32 : F 32 = inD := rfl
theorem R32 : R 32 = fun _ => True := rfl
theorem F11900 : F 11900 = lpAr2 := rfl
theorem R11900 : R 11900 = prAr2 := rfl
theorem F19 : F 19 = planD := rfl
theorem R19 : R 19 = fun _ => True := rfl
theorem F11200 : F 11200 = lpSz := rfl
theorem R11200 : R 11200 = prSz := rfl
theorem F12 : F 12 = sizesD := rfl
theorem R12 : R 12 = fun _ => True := rfl
theorem F11300 : F 11300 = lpRs := rfl
theorem R11300 : R 11300 = prRs := rfl
theorem F13 : F 13 = sizesD := rfl
theorem R13 : R 13 = fun _ => True := rfl
theorem F12050 : F 12050 = lpPn := rfl
theorem R12050 : R 12050 = prPn := rfl
theorem F12051 : F 12051 = lpPt := rfl
theorem R12051 : R 12051 = prPt := rfl
theorem F17020000 : F 17020000 = pcPu := rfl
theorem R17020000 : R 17020000 = prPu := rfl
theorem F11000 : F 11000 = lpP0 := rfl
theorem R11000 : R 11000 = prP0 := rfl
theorem F10 : F 10 = placeD := rfl
theorem R10 : R 10 = fun _ => True := rfl
theorem F11500 : F 11500 = lpQn := rfl
theorem R11500 : R 11500 = prQn := rfl
theorem F11501 : F 11501 = lpQk := rfl
theorem R11501 : R 11501 = prQk := rfl
theorem F11502 : F 11502 = lpQ0 := rfl
theorem R11502 : R 11502 = prQ0 := rfl
theorem F11503 : F 11503 = lpQv := rfl
theorem R11503 : R 11503 = prQv := rfl
theorem F11504 : F 11504 = lpQv := rfl
theorem R11504 : R 11504 = prQv := rfl
theorem F15 : F 15 = placeD := rfl
theorem R15 : R 15 = fun _ => True := rfl
theorem F11100 : F 11100 = lpSs := rfl
theorem R11100 : R 11100 = prSs := rfl
theorem F56 : F 56 = okInD := rfl
theorem R56 : R 56 = okInP := rfl
theorem F13000 : F 13000 = lpI0 := rfl
theorem R13000 : R 13000 = prI0 := rfl
theorem F13001 : F 13001 = lpI1 := rfl
theorem R13001 : R 13001 = prI1 := rfl
theorem F30 : F 30 = withD := rfl
theorem R30 : R 30 = withP := rfl
theorem F16200 : F 16200 = lpHas := rfl
theorem R16200 : R 16200 = prHas := rfl
theorem F62 : F 62 = conD := rfl
theorem R62 : R 62 = conP := rfl
theorem F13100 : F 13100 = lpV3 := rfl
theorem R13100 : R 13100 = prV3 := rfl
theorem F13103 : F 13103 = lpMx := rfl
theorem R13103 : R 13103 = prMx := rfl
theorem F13101 : F 13101 = lpMn := rfl
theorem R13101 : R 13101 = prMn := rfl
theorem F13102 : F 13102 = lpMc := rfl
theorem R13102 : R 13102 = prMc := rfl
theorem F31 : F 31 = apD := rfl
theorem R31 : R 31 = apP := rfl
theorem F11 : F 11 = chD := rfl
theorem R11 : R 11 = fun _ => True := rfl
theorem F13700 : F 13700 = lpS4 := rfl
theorem R13700 : R 13700 = prS4 := rfl
theorem F37 : F 37 = sameLD := rfl
theorem R37 : R 37 = fun _ => True := rfl
theorem F14 : F 14 = sameLD := rfl
theorem R14 : R 14 = fun _ => True := rfl
theorem F10801 : F 10801 = lpF0 := rfl
theorem R10801 : R 10801 = prF0 := rfl
theorem F10800 : F 10800 = lpF1 := rfl
theorem R10800 : R 10800 = prF1 := rfl
theorem F10802 : F 10802 = lpF2 := rfl
theorem R10802 : R 10802 = prF2 := rfl
theorem F10803 : F 10803 = lpF3 := rfl
theorem R10803 : R 10803 = prF3 := rfl
theorem F8 : F 8 = fewGD := rfl
theorem R8 : R 8 = fewGP := rfl
theorem F9 : F 9 = one := rfl
theorem R9 : R 9 = fun _ => True := rfl
theorem fcm {f : FuncId} {S : Sig} {l : List (FuncId × Sig)} (h : Meets Try.prog f S (R f) (F f) ∧ ∀ e ∈ l, MeetsAt Try.prog e.1 e.2 R F) (hp : S.pc.isEmpty = true := by rfl) (hq : rowOf S = none := by rfl) : ∀ e ∈ (f, S) :: l, MeetsAt Try.prog e.1 e.2 R F := List.forall_mem_cons.2 ⟨Meets.at (pre := R) (Φ := F) h.1 hp hq, h.2⟩
end Go.Proofs.Ytindllmeeckfcaa.rv
namespace Go.Proofs.Ytindllmeeckfcaa.rv
set_option maxRecDepth 10000
open Go.RV
theorem fn47_eq (a b : D) : fn47 [a, b] = [.b (ptB a.int b.int)] := by
  simp only [fn47, vt47, VT.val, X.ds, X.d, Op2.ev, List.getD_cons_zero, List.getD_cons_succ, D.int_i, D.bool_b, ite_b, ite_and, ptB, Bool.and_assoc]
theorem fn67_eq (a b : D) : fn67 [a, b] = [.b (ptB a.int b.int)] := by
  simp only [fn67, vt67, VT.val, X.ds, X.d, Op2.ev, List.getD_cons_zero, List.getD_cons_succ, D.int_i, D.bool_b, ite_b, ite_and, ptB, Bool.and_assoc]
theorem fn17_eq (a b c d : D) : fn17 [a, b, c, d] = [.b (bxB a.int b.int c.int d.int)] := by
  simp only [fn17, vt17, VT.val, X.outs, X.ds, X.d, Op2.ev, takeD_zero, takeD_cons, List.cons_append, List.nil_append, List.getD_cons_zero, List.getD_cons_succ, D.bool_b, ite_b, ite_and, show T17 47 = fn47 from rfl, fn47_eq, bxB]
theorem fn36_eq (a b c d : D) : fn36 [a, b, c, d] = [.b (bxB a.int b.int c.int d.int)] := by
  simp only [fn36, vt36, VT.val, X.outs, X.ds, X.d, Op2.ev, takeD_zero, takeD_cons, List.cons_append, List.nil_append, List.getD_cons_zero, List.getD_cons_succ, D.bool_b, ite_b, ite_and, show T36 67 = fn67 from rfl, fn67_eq, bxB]
theorem fn57_eq (a b c d e f g h : D) : fn57 [a, b, c, d, e, f, g, h] = [.b (inB (a.int, b.int, c.int, d.int) (e.int, f.int, g.int, h.int))] := by
  simp only [fn57, vt57, VT.val, X.outs, X.ds, X.d, Op2.ev, takeD_zero, takeD_cons, List.cons_append, List.nil_append, List.getD_cons_zero, List.getD_cons_succ, D.bool_b, ite_b, ite_and, show T57 17 = fn17 from rfl, fn17_eq, inB, bxQ]
end Go.Proofs.Ytindllmeeckfcaa.rv
namespace Go.Proofs.Ytindllmeeckfcaa.rv
set_option maxRecDepth 10000
open Go.RV
theorem fn18_eq (a b c d e f g h : D) : fn18 [a, b, c, d, e, f, g, h] = [.b (ovQ (a.int, b.int, c.int, d.int) (e.int, f.int, g.int, h.int))] := by
  simp only [fn18, vt18, VT.val, X.outs, X.ds, X.d, Op2.ev, takeD_zero, takeD_cons, List.cons_append, List.nil_append, List.getD_cons_zero, List.getD_cons_succ, D.int_i, D.bool_b, ite_b, ite_and, imin, imax, show T18 17 = fn17 from rfl, fn17_eq, ovQ, bxQ]
theorem fn63_eq (a b c d e f g h : D) : fn63 [a, b, c, d, e, f, g, h] = [.b (ovQ (a.int, b.int, c.int, d.int) (e.int, f.int, g.int, h.int))] := by
  simp only [fn63, vt63, VT.val, X.outs, X.ds, X.d, Op2.ev, takeD_zero, takeD_cons, List.cons_append, List.nil_append, List.getD_cons_zero, List.getD_cons_succ, D.int_i, D.bool_b, ite_b, ite_and, imin, imax, show T63 36 = fn36 from rfl, fn36_eq, ovQ, bxQ]
theorem infl_no {q : Bx} {k : Int} (h : bxQ q = false ∨ k < -536870912 ∨ 536870912 < k) : inflQ q k = z4 := by
  unfold inflQ
  rw [if_neg]
  rintro ⟨h1, h2, h3, _⟩
  rcases h with h | h | h
  · rw [h] at h1; cases h1
  · omega
  · omega
theorem fn88_eq (a b c d : Int) : fn88 [.i a, .i b, .i c, .i d] = if bxB a b c d = true then [.i a, .i b, .i c, .i d] else [.i 0, .i 0, .i 0, .i 0] := by
  simp only [fn88, vt88, VT.val, X.outs, X.ds, X.d, Op1.ev, takeD_zero, takeD_cons, List.cons_append, List.nil_append, List.getD_cons_zero, List.getD_cons_succ, D.int_i, D.bool_b, show T88 17 = fn17 from rfl, fn17_eq]
  cases h : bxB a b c d <;> rfl
theorem fn58_eq (q : Bx) (k : Int) : fn58 [.i q.1, .i q.2.1, .i q.2.2.1, .i q.2.2.2, .i k] = encQ (inflQ q k) := by
  simp only [fn58, vt58, VT.val, X.outs, X.ds, X.d, Op1.ev, Op2.ev, takeD_zero, takeD_cons, List.cons_append, List.nil_append, List.getD_cons_zero, List.getD_cons_succ, D.int_i, D.bool_b, ite_b, ite_or, show T58 17 = fn17 from rfl, show T58 88 = fn88 from rfl, fn17_eq]
  cases hv : bxB q.1 q.2.1 q.2.2.1 q.2.2.2 with
  | false => rw [infl_no (.inl hv)]; rfl
  | true =>
    by_cases h1 : 536870912 < k
    · rw [infl_no (.inr (.inr h1))]; simp [h1]; rfl
    · by_cases h2 : k < -536870912
      · rw [infl_no (.inr (.inl h2))]; simp [h2]; rfl
      · have := bxB_iff.1 hv
        have e1 : IntKind.i64.wrap (q.1 - k) = q.1 - k := w64 (by omega)
        have e2 : IntKind.i64.wrap (q.2.1 - k) = q.2.1 - k := w64 (by omega)
        have e3 : IntKind.i64.wrap (q.2.2.1 + k) = q.2.2.1 + k := w64 (by omega)
        have e4 : IntKind.i64.wrap (q.2.2.2 + k) = q.2.2.2 + k := w64 (by omega)
        have h3 : -536870912 ≤ k := by omega
        have h4 : k ≤ 536870912 := by omega
        simp only [h1, h2, decide_false, Bool.not_true, Bool.or_self, Bool.false_eq_true, if_false, e1, e2, e3, e4, fn88_eq, inflQ, bxQ, hv, h3, h4, true_and]
        cases hw : bxB (q.1 - k) (q.2.1 - k) (q.2.2.1 + k) (q.2.2.2 + k) <;> rfl
theorem fn29_eq (q : Bx) (h : smQ q) : fn29 [.i q.1, .i q.2.1, .i q.2.2.1, .i q.2.2.2] = encP (extQ q) := by
  unfold smQ at h
  show [D.i (IntKind.i64.wrap (q.2.2.1 - q.1)), D.i (IntKind.i64.wrap (q.2.2.2 - q.2.1))] = _
  rw [w64 (by omega), w64 (by omega)]; rfl
theorem fn21_eq (q : Bx) (x y : Int) (h : smQ q) (hx : sm x) (hy : sm y) : fn21 [.i q.1, .i q.2.1, .i q.2.2.1, .i q.2.2.2, .i x, .i y] = encQ (shQ q x y) := by
  unfold smQ at h; unfold sm at hx hy
  show [D.i (IntKind.i64.wrap (q.1 + x)), D.i (IntKind.i64.wrap (q.2.1 + y)), D.i (IntKind.i64.wrap (q.2.2.1 + x)), D.i (IntKind.i64.wrap (q.2.2.2 + y))] = _
  rw [w64 (by omega), w64 (by omega), w64 (by omega), w64 (by omega)]; rfl
theorem fn40_eq (q : Bx) (x y : Int) (h : smQ q) (hx : sm x) (hy : sm y) : fn40 [.i q.1, .i q.2.1, .i q.2.2.1, .i q.2.2.2, .i x, .i y] = encQ (shQ q x y) := by
  unfold smQ at h; unfold sm at hx hy
  show [D.i (IntKind.i64.wrap (q.1 + x)), D.i (IntKind.i64.wrap (q.2.1 + y)), D.i (IntKind.i64.wrap (q.2.2.1 + x)), D.i (IntKind.i64.wrap (q.2.2.2 + y))] = _
  rw [w64 (by omega), w64 (by omega), w64 (by omega), w64 (by omega)]; rfl
theorem fn28_eq (a b c d e : Int) : fn28 [.i a, .i b, .i c, .i d, .i e] = [.b (Od.ok ⟨a, b, c, d, e⟩)] := by
  simp only [fn28, vt28, VT.val, X.ds, X.d, Op2.ev, List.getD_cons_zero, List.getD_cons_succ, D.int_i, D.bool_b, ite_b, ite_and, imin, imax]
  congr 2
  rw [Bool.eq_iff_iff, Od.ok_iff]
  simp only [Bool.and_eq_true, beq_iff_eq]
  omega
theorem fn43_eq (a b c d e : Int) : fn43 [.i a, .i b, .i c, .i d, .i e] = [.b (Od.ok ⟨a, b, c, d, e⟩)] := by
  simp only [fn43, vt43, VT.val, X.ds, X.d, Op2.ev, List.getD_cons_zero, List.getD_cons_succ, D.int_i, D.bool_b, ite_b, ite_and, Od.ok]
theorem fn24_eq (q : Bx) : fn24 [.i q.1, .i q.2.1, .i q.2.2.1, .i q.2.2.2] = [.b (!bxQ q)] := by
  simp only [fn24, vt24, VT.val, X.outs, X.ds, X.d, Op1.ev, takeD_zero, takeD_cons, List.cons_append, List.nil_append, List.getD_cons_zero, List.getD_cons_succ, D.int_i, D.bool_b, show T24 17 = fn17 from rfl, fn17_eq, bxQ]
theorem fn27_eq (q : Bx) : fn27 [.i q.1, .i q.2.1, .i q.2.2.1, .i q.2.2.2] = [.b (!bxQ q)] := by
  simp only [fn27, vt27, VT.val, X.outs, X.ds, X.d, Op1.ev, takeD_zero, takeD_cons, List.cons_append, List.nil_append, List.getD_cons_zero, List.getD_cons_succ, D.int_i, D.bool_b, show T27 17 = fn17 from rfl, fn17_eq, bxQ]
theorem fn59_eq (q r : Bx) : fn59 [.i q.1, .i q.2.1, .i q.2.2.1, .i q.2.2.2, .p (encQ r)] = [.b (ovQ q r)] := by
  simp only [fn59, vt59, VT.val, X.outs, X.ds, X.d, takeD_zero, takeD_cons, List.cons_append, List.nil_append, List.getD_cons_zero, List.getD_cons_succ, D.int_i, show T59 18 = fn18 from rfl, fn18_eq, encQ, D.ptd_p]
theorem fn77_eq (q r : Bx) : fn77 [.i q.1, .i q.2.1, .i q.2.2.1, .i q.2.2.2, .p (encQ r)] = [.b (ovQ q r)] := by
  simp only [fn77, vt77, VT.val, X.outs, X.ds, X.d, takeD_zero, takeD_cons, List.cons_append, List.nil_append, List.getD_cons_zero, List.getD_cons_succ, D.int_i, show T77 18 = fn18 from rfl, fn18_eq, encQ, D.ptd_p]
theorem m20041 : Meets Try.prog 20041 S20041 (R 20041) (F 20041) := by
  refine meets_dyn (by decide) rfl fun d ds hf hp => ?_
  obtain ⟨f, q, ⟨e, hf'⟩ | ⟨r, e, hf'⟩⟩ : dpBx 24 27 59 77 (d :: ds) := hp
  · cases e
    rcases hf' with rfl | rfl
    · exact ⟨_, [], [], S24, _, fn24, rfl, by decide, m24, rfl, rfl, trivial, fn24_eq q⟩
    · exact ⟨_, [], [], S27, _, fn27, rfl, by decide, m27, rfl, rfl, trivial, fn27_eq q⟩
  · cases e
    rcases hf' with rfl | rfl
    · exact ⟨_, [.pt [.int .i64, .int .i64, .int .i64, .int .i64]], [.p (encQ r)], S59, _, fn59, rfl, by decide, m59, rfl, rfl, trivial, fn59_eq q r⟩
    · exact ⟨_, [.pt [.int .i64, .int .i64, .int .i64, .int .i64]], [.p (encQ r)], S77, _, fn77, rfl, by decide, m77, rfl, rfl, trivial, fn77_eq q r⟩
end Go.Proofs.Ytindllmeeckfcaa.rv
namespace Go.Proofs.Ytindllmeeckfcaa.rv
set_option maxRecDepth 10000
open Go.RV
theorem loopM51_0 : LoopMeets Try.prog F (R L51_0.key) L51_0 lb51_0 := by
  refine loop_meets (pre := R) mixed (sgAt_all (P := Try.prog) (pre := R) (Φ := F) (l := sg51) (fcm ⟨m20041, (fun _ h => nomatch h)⟩)) (loops_n 0 lk51_0 fun k hk => by omega) L51_0 (fun ρ => ((ρ.getD 3 default).int - (ρ.getD 4 default).int).toNat) le51_0 fun ρ _ hq => ?_
  obtain ⟨xs, c, v, j, rfl, hj, hm, hp⟩ : ixPr (dpBx 24 27 59 77) 4 ρ := hq
  rw [maxLen_val] at hm
  by_cases hlt : j < xs.length
  · simp (disch := omega) only [rt51_0, VT.ok, Nd.holds, X.outs, X.ds, X.d, Op1.ev, Op2.ev, List.cons_append, List.nil_append, List.getD_cons_zero, List.getD_cons_succ, D.int_i, D.bool_b, D.lst_l, Int.toNat_natCast, implies_true, true_and, takeD1_0, F20041, R20041, ↓reduceIte, dle_t, dlt_t, w64']
    refine ⟨fun _ => hp j hlt, ?_⟩
    show if ((dyBx (c :: cellsN 4 (el xs j))).getD 0 default).bool = true then _ else _
    cases hb : ((dyBx (c :: cellsN 4 (el xs j))).getD 0 default).bool
    · simp only [Bool.false_eq_true, if_false]
      refine round_next ⟨⟨xs, c, v, j + 1, rfl, by omega, hm, hp⟩, ?_, ?_⟩
      · show ((xs.length : Int) - ((j + 1 : Nat) : Int)).toNat < ((xs.length : Int) - (j : Int)).toNat
        omega
      · show ixLp dyBx 4 [.l xs, c, v, .i (xs.length : Int), .i ((j + 1 : Nat) : Int)] = ixLp dyBx 4 [.l xs, c, v, .i (xs.length : Int), .i (j : Int)]
        simp only [ixLp, Int.toNat_natCast]
        exact scan_next hlt hb
    · simp only [if_true]
      refine round_exit (by omega) ?_
      show ixLp dyBx 4 [.l xs, c, v, .i (xs.length : Int), .i (j : Int)] = _
      simp only [ixLp, Int.toNat_natCast]
      exact scan_hit hlt hb
  · have hj' : j = xs.length := by omega
    subst hj'
    simp (disch := omega) only [rt51_0, VT.ok, X.ds, X.d, Op2.ev, List.getD_cons_zero, List.getD_cons_succ, D.int_i, D.bool_b, Bool.false_eq_true, ↓reduceIte, dlt_f]
    refine round_exit (by omega) ?_
    show ixLp dyBx 4 [.l xs, c, v, .i (xs.length : Int), .i (xs.length : Int)] = _
    simp only [ixLp, Int.toNat_natCast]
    exact scan_end
theorem m51 : Meets Try.prog 51 S51 (R 51) (F 51) := by
  refine meets_of_vt (pre := R) (Φ := F) mixed (sgAt_all (P := Try.prog) (pre := R) (Φ := F) (l := sg51) (fcm ⟨m20041, (fun _ h => nomatch h)⟩)) Try.func51 b51 n51 (loops_n 1 k51 fun k hk => match k, hk with | 0, _ => loop_this lf51_0 loopM51_0) e51 fun ds hf hq => ?_
  obtain ⟨x, c, rfl, hx, _⟩ := fits2 hf.flat
  obtain ⟨xs, rfl, hm, _⟩ := wf_sl hx
  have hq : ∀ i, i < xs.length → (dpBx 24 27 59 77) (c :: cellsN 4 (el xs i)) := hq
  have hpre : ixPr (dpBx 24 27 59 77) 4 [.l xs, c, .i 0, .i (xs.length : Int), .i 0] := ⟨xs, c, .i 0, 0, rfl, by omega, hm, hq⟩
  simp only [vt51, VT.ok, Nd.holds, X.outs, X.ds, X.d, Op1.ev, Op2.ev, List.cons_append, List.nil_append, List.getD_cons_zero, List.getD_cons_succ, D.int_i, D.bool_b, D.lst_l, F15100, R15100, F51]
  refine ⟨fun _ => hpre, ?_⟩
  simp only [ixLp, ixFn, Int.toNat_zero, Nat.sub_zero, scan_fs, ixI, cL, List.getD_cons_zero, List.getD_cons_succ, D.lst_l]
  split <;> rfl
theorem m25 : Meets Try.prog 25 S25 (R 25) (F 25) := by
  refine meets_of_vt (pre := R) (Φ := F) mixed (sgAt_all (P := Try.prog) (pre := R) (Φ := F) (l := sg25) (fcm ⟨m51, (fun _ h => nomatch h)⟩)) Try.func25 b25 n25 (loops_n 0 k25 fun k hk => by omega) e25 fun ds hf hq => ?_
  obtain ⟨x, c, rfl, hx, _⟩ := fits2 hf.flat
  simp only [vt25, VT.ok, Nd.holds, X.outs, X.ds, X.d, Op2.ev, takeD_zero, takeD_cons, List.cons_append, List.nil_append, List.getD_cons_zero, List.getD_cons_succ, D.int_i, D.bool_b, and_true, F51, R51, F25, ixFn, cfFn, ixI_any]
  exact fun _ => hq
theorem cellsQ (q : Bx) : cellsN 4 (encQ q) = [.i q.1, .i q.2.1, .i q.2.2.1, .i q.2.2.2] := rfl
theorem rowB {l : List Bx} {i : Nat} (h : i < l.length) : el (l.map encQ) i = encQ (l.getD i z4) := row_get z4 h
theorem cf_bad {f : FuncId} (hf : f = 24 ∨ f = 27) (l : List Bx) :
    R 25 [.l (l.map encQ), .c f [] []] ∧ F 25 [.l (l.map encQ), .c f [] []] = [.b (badL l)] := by
  rw [R25, F25]
  refine ⟨fun i hi => ?_, ?_⟩
  · have hi : i < l.length := by simpa [cL] using hi
    show dpBx _ _ _ _ (.c f [] [] :: cellsN 4 (el (l.map encQ) i))
    rw [rowB hi, cellsQ]
    exact ⟨f, _, .inl ⟨rfl, hf⟩⟩
  · show [D.b (anyN (fun j => ((dyBx (.c f [] [] :: cellsN 4 (el (l.map encQ) j))).getD 0 default).bool) (l.map encQ).length)] = _
    rw [List.length_map]
    refine congrArg (fun b => [D.b b]) (anyN_congr fun k hk => ?_)
    rw [rowB hk, cellsQ]; rfl
theorem cf_ov {f : FuncId} (hf : f = 59 ∨ f = 77) (l : List Bx) (q : Bx) :
    R 25 [.l (l.map encQ), .c f [.pt [.int .i64, .int .i64, .int .i64, .int .i64]] [.p (encQ q)]] ∧ F 25 [.l (l.map encQ), .c f [.pt [.int .i64, .int .i64, .int .i64, .int .i64]] [.p (encQ q)]] = [.b (anyN (ovJ l q) l.length)] := by
  rw [R25, F25]
  refine ⟨fun i hi => ?_, ?_⟩
  · have hi : i < l.length := by simpa [cL] using hi
    show dpBx _ _ _ _ (.c f [.pt [.int .i64, .int .i64, .int .i64, .int .i64]] [.p (encQ q)] :: cellsN 4 (el (l.map encQ) i))
    rw [rowB hi, cellsQ]
    exact ⟨f, _, .inr ⟨q, rfl, hf⟩⟩
  · show [D.b (anyN (fun j => ((dyBx (.c f [.pt [.int .i64, .int .i64, .int .i64, .int .i64]] [.p (encQ q)] :: cellsN 4 (el (l.map encQ) j))).getD 0 default).bool) (l.map encQ).length)] = _
    rw [List.length_map]
    refine congrArg (fun b => [D.b b]) (anyN_congr fun k hk => ?_)
    rw [rowB hk, cellsQ]; rfl
theorem ov_take {l : List Bx} {i : Nat} (h : i ≤ l.length) (q : Bx) : anyN (ovJ (l.take i) q) (l.take i).length = anyN (ovJ l q) i := by
  rw [List.length_take, Nat.min_eq_left h]
  refine anyN_congr fun k hk => ?_
  unfold ovJ
  congr 1
  simp only [List.getD]
  rw [List.getElem?_take, if_pos hk]
theorem loopM50_0 : LoopMeets Try.prog F (R L50_0.key) L50_0 lb50_0 := by
  refine loop_meets (pre := R) mixed (sgAt_all (P := Try.prog) (pre := R) (Φ := F) (l := sg50) (fcm ⟨m17, (fun _ h => nomatch h)⟩)) (loops_n 0 lk50_0 fun k hk => by omega) L50_0 (fun ρ => ((ρ.getD 2 default).int - (ρ.getD 3 default).int).toNat) le50_0 fun ρ _ hq => ?_
  obtain ⟨f, xs, a, b, c, d, j, rfl, hj, hm, hbx⟩ : prUn ρ := hq
  rw [maxLen_val] at hm
  by_cases hlt : j < xs.length
  · obtain ⟨e0, e1, e2, e3⟩ := hbx j hlt
    have hmu : ((xs.length : Int) - ((j + 1 : Nat) : Int)).toNat < ((xs.length : Int) - (j : Int)).toNat := by omega
    simp (disch := omega) only [rt50_0, VT.ok, Nd.holds, X.outs, X.ds, X.d, Op1.ev, Op2.ev, takeD_zero, takeD_cons, List.cons_append, List.nil_append, List.getD_cons_zero, List.getD_cons_succ, D.int_i, D.bool_b, D.lst_l, imin, imax, Int.toNat_natCast, implies_true, true_and, F17, R17, ↓reduceIte, dle_t, dlt_t, w64', fn17_eq, e0, e1, e2, e3]
    cases hb : bxB (cI (el xs j) 0) (cI (el xs j) (0 + 1)) (cI (el xs j) (0 + 2)) (cI (el xs j) (0 + 3))
    · simp only [Bool.not_false, if_true]
      refine round_next ⟨⟨f, xs, a, b, c, d, j + 1, rfl, by omega, hm, hbx⟩, hmu, ?_⟩
      show lpUn [.b f, .l xs, .i (xs.length : Int), .i ((j + 1 : Nat) : Int), .i a, .i b, .i c, .i d] = lpUn [.b f, .l xs, .i (xs.length : Int), .i (j : Int), .i a, .i b, .i c, .i d]
      have e : uniS xs j (!f, (a, b, c, d)) = uniS xs (j + 1) (!f, (a, b, c, d)) := by
        unfold uniS
        rw [fold_next hlt]
        have hb' : bxQ (rQ (el xs j) 0) = false := hb
        rw [hb']
        rfl
      simp only [lpUn, Int.toNat_natCast, e]
    · have hb' : bxQ (rQ (el xs j) 0) = true := hb
      simp only [Bool.not_true, Bool.false_eq_true, if_false]
      cases f
      · simp only [Bool.false_eq_true, if_false]
        refine round_next ⟨⟨false, xs, _, _, _, _, j + 1, rfl, by omega, hm, hbx⟩, hmu, ?_⟩
        have e : uniS xs j (true, (a, b, c, d)) = uniS xs (j + 1) (true, join (a, b, c, d) (rQ (el xs j) 0)) := by
          unfold uniS
          rw [fold_next hlt, hb']
          rfl
        show lpUn [.b false, .l xs, .i (xs.length : Int), .i ((j + 1 : Nat) : Int), .i (join (a, b, c, d) (rQ (el xs j) 0)).1, .i (join (a, b, c, d) (rQ (el xs j) 0)).2.1, .i (join (a, b, c, d) (rQ (el xs j) 0)).2.2.1, .i (join (a, b, c, d) (rQ (el xs j) 0)).2.2.2] = lpUn [.b false, .l xs, .i (xs.length : Int), .i (j : Int), .i a, .i b, .i c, .i d]
        simp only [lpUn, Int.toNat_natCast, Bool.not_false, e]
      · simp only [if_true]
        refine round_next ⟨⟨false, xs, _, _, _, _, j + 1, rfl, by omega, hm, hbx⟩, hmu, ?_⟩
        have e : uniS xs j (false, (a, b, c, d)) = uniS xs (j + 1) (true, rQ (el xs j) 0) := by
          unfold uniS
          rw [fold_next hlt, hb']
          rfl
        show lpUn [.b false, .l xs, .i (xs.length : Int), .i ((j + 1 : Nat) : Int), .i (rQ (el xs j) 0).1, .i (rQ (el xs j) 0).2.1, .i (rQ (el xs j) 0).2.2.1, .i (rQ (el xs j) 0).2.2.2] = lpUn [.b true, .l xs, .i (xs.length : Int), .i (j : Int), .i a, .i b, .i c, .i d]
        simp only [lpUn, Int.toNat_natCast, Bool.not_false, Bool.not_true, e]
  · have hj' : j = xs.length := by omega
    subst hj'
    simp (disch := omega) only [rt50_0, VT.ok, X.ds, X.d, Op2.ev, List.getD_cons_zero, List.getD_cons_succ, D.int_i, D.bool_b, Bool.false_eq_true, ↓reduceIte, dlt_f]
    refine round_exit (by omega) ?_
    show lpUn [.b f, .l xs, .i (xs.length : Int), .i (xs.length : Int), .i a, .i b, .i c, .i d] = _
    simp only [lpUn, Int.toNat_natCast, uniS, fold_end, Bool.not_not, dQ]
theorem boxyU {xs : List (List D)} (h : ∀ x ∈ xs, FitsF [.int .i64, .int .i64, .int .i64, .int .i64] x) : boxy xs 0 := fun i hi => by
  obtain ⟨x, y, z, w, e, hx, hy, hz, hw⟩ := fits4 (h _ (getD_mem [] hi))
  obtain ⟨_, rfl, _⟩ := wf_i64 hx
  obtain ⟨_, rfl, _⟩ := wf_i64 hy
  obtain ⟨_, rfl, _⟩ := wf_i64 hz
  obtain ⟨_, rfl, _⟩ := wf_i64 hw
  simp only [cI, el]
  rw [e]
  exact ⟨rfl, rfl, rfl, rfl⟩
theorem m50 : Meets Try.prog 50 S50 (R 50) (F 50) := by
  refine meets_of_vt (pre := R) (Φ := F) mixed (sgAt_all (P := Try.prog) (pre := R) (Φ := F) (l := sg50) (fcm ⟨m17, (fun _ h => nomatch h)⟩)) Try.func50 b50 n50 (loops_n 1 k50 fun k hk => match k, hk with | 0, _ => loop_this lf50_0 loopM50_0) e50 fun ds hf _ => ?_
  obtain ⟨x, rfl, hx⟩ := fits1 hf.flat
  obtain ⟨xs, rfl, hm, hfx⟩ := wf_sl hx
  have hpre : prUn [.b true, .l xs, .i (xs.length : Int), .i 0, .i 0, .i 0, .i 0, .i 0] := ⟨true, xs, 0, 0, 0, 0, 0, rfl, by omega, hm, boxyU hfx⟩
  simp only [vt50, VT.ok, Nd.holds, X.outs, X.ds, X.d, Op1.ev, List.cons_append, List.nil_append, List.getD_cons_zero, List.getD_cons_succ, D.bool_b, D.lst_l, F15000, R15000, F50]
  exact ⟨fun _ => hpre, rfl⟩
theorem loopM35_0 : LoopMeets Try.prog F (R L35_0.key) L35_0 lb35_0 := by
  refine loop_meets (pre := R) mixed (sgAt_all (P := Try.prog) (pre := R) (Φ := F) (l := sg35) (fcm ⟨m36, (fun _ h => nomatch h)⟩)) (loops_n 0 lk35_0 fun k hk => by omega) L35_0 (fun ρ => (((ρ.getD 0 default).lst.length : Int) - (ρ.getD 2 default).int).toNat) le35_0 fun ρ _ hq => ?_
  obtain ⟨xs, f, a, b, c, d, j, rfl, hj, hm, hbx⟩ : prUr ρ := hq
  rw [maxLen_val] at hm
  by_cases hlt : j < xs.length
  · obtain ⟨e0, e1, e2, e3⟩ := hbx j hlt
    have hmu : ((xs.length : Int) - ((j + 1 : Nat) : Int)).toNat < ((xs.length : Int) - (j : Int)).toNat := by omega
    simp (disch := omega) only [rt35_0, VT.ok, Nd.holds, X.outs, X.ds, X.d, Op1.ev, Op2.ev, takeD_zero, takeD_cons, List.cons_append, List.nil_append, List.getD_cons_zero, List.getD_cons_succ, D.int_i, D.bool_b, D.lst_l, imin, imax, Int.toNat_natCast, implies_true, true_and, F36, R36, ↓reduceIte, dle_t, dlt_t, w64', fn36_eq, e0, e1, e2, e3]
    cases hb : bxB (cI (el xs j) 0) (cI (el xs j) (0 + 1)) (cI (el xs j) (0 + 2)) (cI (el xs j) (0 + 3))
    · simp only [Bool.not_false, if_true]
      refine round_next ⟨⟨xs, f, a, b, c, d, j + 1, rfl, by omega, hm, hbx⟩, hmu, ?_⟩
      show lpUr [.l xs, .b f, .i ((j + 1 : Nat) : Int), .i a, .i b, .i c, .i d] = lpUr [.l xs, .b f, .i (j : Int), .i a, .i b, .i c, .i d]
      have e : uniS xs j (f, (a, b, c, d)) = uniS xs (j + 1) (f, (a, b, c, d)) := by
        unfold uniS
        rw [fold_next hlt]
        have hb' : bxQ (rQ (el xs j) 0) = false := hb
        rw [hb']
        rfl
      simp only [lpUr, Int.toNat_natCast, e]
    · have hb' : bxQ (rQ (el xs j) 0) = true := hb
      simp only [Bool.not_true, Bool.false_eq_true, if_false]
      cases f
      · simp only [Bool.not_false, if_true]
        refine round_next ⟨⟨xs, true, _, _, _, _, j + 1, rfl, by omega, hm, hbx⟩, hmu, ?_⟩
        have e : uniS xs j (false, (a, b, c, d)) = uniS xs (j + 1) (true, join (rQ (el xs j) 0) (rQ (el xs j) 0)) := by
          unfold uniS
          rw [fold_next hlt, hb']
          have e2 : join (rQ (el xs j) 0) (rQ (el xs j) 0) = rQ (el xs j) 0 := by
            simp only [join, Int.min_self, Int.max_self]
          rw [e2]
          rfl
        show lpUr [.l xs, .b true, .i ((j + 1 : Nat) : Int), .i (join (rQ (el xs j) 0) (rQ (el xs j) 0)).1, .i (join (rQ (el xs j) 0) (rQ (el xs j) 0)).2.1, .i (join (rQ (el xs j) 0) (rQ (el xs j) 0)).2.2.1, .i (join (rQ (el xs j) 0) (rQ (el xs j) 0)).2.2.2] = lpUr [.l xs, .b false, .i (j : Int), .i a, .i b, .i c, .i d]
        simp only [lpUr, Int.toNat_natCast, e]
      · simp only [Bool.not_true, Bool.false_eq_true, if_false]
        refine round_next ⟨⟨xs, true, _, _, _, _, j + 1, rfl, by omega, hm, hbx⟩, hmu, ?_⟩
        have e : uniS xs j (true, (a, b, c, d)) = uniS xs (j + 1) (true, join (a, b, c, d) (rQ (el xs j) 0)) := by
          unfold uniS
          rw [fold_next hlt, hb']
          rfl
        show lpUr [.l xs, .b true, .i ((j + 1 : Nat) : Int), .i (join (a, b, c, d) (rQ (el xs j) 0)).1, .i (join (a, b, c, d) (rQ (el xs j) 0)).2.1, .i (join (a, b, c, d) (rQ (el xs j) 0)).2.2.1, .i (join (a, b, c, d) (rQ (el xs j) 0)).2.2.2] = lpUr [.l xs, .b true, .i (j : Int), .i a, .i b, .i c, .i d]
        simp only [lpUr, Int.toNat_natCast, e]
  · have hj' : j = xs.length := by omega
    subst hj'
    simp (disch := omega) only [rt35_0, VT.ok, X.ds, X.d, Op1.ev, Op2.ev, List.getD_cons_zero, List.getD_cons_succ, D.int_i, D.bool_b, D.lst_l, Bool.false_eq_true, ↓reduceIte, dlt_f]
    refine round_exit (by omega) ?_
    show lpUr [.l xs, .b f, .i (xs.length : Int), .i a, .i b, .i c, .i d] = _
    simp only [lpUr, Int.toNat_natCast, uniS, fold_end, dQ]
theorem m35 : Meets Try.prog 35 S35 (R 35) (F 35) := by
  refine meets_of_vt (pre := R) (Φ := F) mixed (sgAt_all (P := Try.prog) (pre := R) (Φ := F) (l := sg35) (fcm ⟨m36, (fun _ h => nomatch h)⟩)) Try.func35 b35 n35 (loops_n 1 k35 fun k hk => match k, hk with | 0, _ => loop_this lf35_0 loopM35_0) e35 fun ds hf _ => ?_
  obtain ⟨x, rfl, hx⟩ := fits1 hf.flat
  obtain ⟨xs, rfl, hm, hfx⟩ := wf_sl hx
  have hpre : prUr [.l xs, .b false, .i 0, .i 0, .i 0, .i 0, .i 0] := ⟨xs, false, 0, 0, 0, 0, 0, rfl, by omega, hm, boxyU hfx⟩
  simp only [vt35, VT.ok, Nd.holds, X.outs, X.ds, X.d, List.cons_append, List.nil_append, List.getD_cons_zero, List.getD_cons_succ, D.bool_b, F13500, R13500, F35]
  exact ⟨fun _ => hpre, rfl⟩
end Go.Proofs.Ytindllmeeckfcaa.rv
namespace Go.Proofs.Ytindllmeeckfcaa.rv
set_option maxRecDepth 10000
open Go.RV
theorem rowPz {l : List Pt} {i : Nat} (h : i < l.length) : (l.map encP).getD i [] = encP (l.getD i pz) := row_get pz h
theorem rowQz {l : List Bx} {i : Nat} (h : i < l.length) : (l.map encQ).getD i [] = encQ (l.getD i z4) := row_get z4 h
theorem loopM99_0 : LoopMeets Try.prog F (R L99_0.key) L99_0 lb99_0 := by
  refine loop_meets (pre := R) mixed (sgAt_all (P := Try.prog) (pre := R) (Φ := F) (l := sg99) ((fun _ h => nomatch h))) (loops_n 0 lk99_0 fun k hk => by omega) L99_0 (fun ρ => ((ρ.getD 2 default).int - (ρ.getD 3 default).int).toNat) le99_0 fun ρ _ hq => ?_
  obtain ⟨v, l, j, rfl, hj, hm⟩ : prCk ρ := hq
  rw [maxLen_val] at hm
  by_cases hlt : j < l.length
  · simp (disch := omega) only [rt99_0, VT.ok, Nd.holds, X.ds, X.d, Op1.ev, Op2.ev, List.getD_cons_zero, List.getD_cons_succ, D.int_i, D.bool_b, D.lst_l, ite_b, ite_or, imin, imax, Int.toNat_natCast, List.length_map, implies_true, true_and, ↓reduceIte, dle_t, dlt_t, w64', rowPz, encP]
    show if badAt l j = true then _ else _
    cases hb : badAt l j
    · simp only [Bool.false_eq_true, if_false]
      refine round_next ⟨⟨v, l, j + 1, rfl, by omega, hm⟩, ?_, ?_⟩
      · show ((l.length : Int) - ((j + 1 : Nat) : Int)).toNat < ((l.length : Int) - (j : Int)).toNat
        omega
      · show lpCk [.i v, .l (l.map encP), .i (l.length : Int), .i ((j + 1 : Nat) : Int)] = lpCk [.i v, .l (l.map encP), .i (l.length : Int), .i (j : Int)]
        simp only [lpCk, map_decP, List.length_map, Int.toNat_natCast]
        exact scan_next hlt hb
    · simp only [if_true]
      refine round_exit (by omega) ?_
      show lpCk [.i v, .l (l.map encP), .i (l.length : Int), .i (j : Int)] = _
      simp only [lpCk, map_decP, List.length_map, Int.toNat_natCast]
      exact scan_hit hlt hb
  · have hj' : j = l.length := by omega
    subst hj'
    simp (disch := omega) only [rt99_0, VT.ok, X.ds, X.d, Op2.ev, List.getD_cons_zero, List.getD_cons_succ, D.int_i, D.bool_b, Bool.false_eq_true, ↓reduceIte, dlt_f]
    refine round_exit (by omega) ?_
    show lpCk [.i v, .l (l.map encP), .i (l.length : Int), .i (l.length : Int)] = _
    simp only [lpCk, map_decP, List.length_map, Int.toNat_natCast]
    exact scan_end
theorem loopM64_0 : LoopMeets Try.prog F (R L64_0.key) L64_0 lb64_0 := by
  refine loop_meets (pre := R) mixed (sgAt_all (P := Try.prog) (pre := R) (Φ := F) (l := sg64) ((fun _ h => nomatch h))) (loops_n 0 lk64_0 fun k hk => by omega) L64_0 (fun ρ => (((ρ.getD 0 default).lst.length : Int) - (ρ.getD 2 default).int).toNat) le64_0 fun ρ _ hq => ?_
  obtain ⟨v, l, j, rfl, hj, hm⟩ : prCr ρ := hq
  rw [maxLen_val] at hm
  by_cases hlt : j < l.length
  · have hb0 : badAt l j = ((decide ((l.getD j pz).1 < 0) || decide (1048576 < (l.getD j pz).1)) || (decide ((l.getD j pz).2 < 0) || decide (1048576 < (l.getD j pz).2))) := by
      rw [Bool.eq_iff_iff]; simp only [badAt, badZ, Bool.or_eq_true, decide_eq_true_eq]; omega
    simp (disch := omega) only [rt64_0, VT.ok, Nd.holds, X.ds, X.d, Op1.ev, Op2.ev, List.getD_cons_zero, List.getD_cons_succ, D.int_i, D.bool_b, D.lst_l, ite_b, ite_or, Int.toNat_natCast, List.length_map, implies_true, true_and, ↓reduceIte, dle_t, dlt_t, w64', rowPz, encP]
    rw [show (decide ((l.getD j pz).1 < 0) || decide (1048576 < (l.getD j pz).1) || decide ((l.getD j pz).2 < 0) || decide (1048576 < (l.getD j pz).2)) = badAt l j by rw [hb0, Bool.or_assoc, Bool.or_assoc]]
    show if badAt l j = true then _ else _
    cases hb : badAt l j
    · simp only [Bool.false_eq_true, if_false]
      refine round_next ⟨⟨v, l, j + 1, rfl, by omega, hm⟩, ?_, ?_⟩
      · show (((l.map encP).length : Int) - ((j + 1 : Nat) : Int)).toNat < (((l.map encP).length : Int) - (j : Int)).toNat
        rw [List.length_map]; omega
      · show lpCr [.l (l.map encP), .i v, .i ((j + 1 : Nat) : Int)] = lpCr [.l (l.map encP), .i v, .i (j : Int)]
        simp only [lpCr, map_decP, List.length_map, Int.toNat_natCast]
        exact scan_next hlt hb
    · simp only [if_true]
      refine round_exit (by omega) ?_
      show lpCr [.l (l.map encP), .i v, .i (j : Int)] = _
      simp only [lpCr, map_decP, List.length_map, Int.toNat_natCast]
      exact scan_hit hlt hb
  · have hj' : j = l.length := by omega
    subst hj'
    simp (disch := omega) only [rt64_0, VT.ok, X.ds, X.d, Op1.ev, Op2.ev, List.getD_cons_zero, List.getD_cons_succ, D.int_i, D.bool_b, D.lst_l, List.length_map, Bool.false_eq_true, ↓reduceIte, dlt_f]
    refine round_exit (by omega) ?_
    show lpCr [.l (l.map encP), .i v, .i (l.length : Int)] = _
    simp only [lpCr, map_decP, List.length_map, Int.toNat_natCast]
    exact scan_end
theorem arg_cond (w g : Int) : (decide (w < 0) || decide (268435456 < w) || decide (g < 0) || decide (1048576 < g)) = argBad w g := rfl
theorem m99 : Meets Try.prog 99 S99 (R 99) (F 99) := by
  refine meets_of_vt (pre := R) (Φ := F) mixed (sgAt_all (P := Try.prog) (pre := R) (Φ := F) (l := sg99) ((fun _ h => nomatch h))) Try.func99 b99 n99 (loops_n 1 k99 fun k hk => match k, hk with | 0, _ => loop_this lf99_0 loopM99_0) e99 fun ds _ hp => ?_
  obtain ⟨l, w, g, rfl, hm⟩ : chkPre ds := hp
  have hpre : prCk [.i 0, .l (l.map encP), .i (l.length : Int), .i 0] := ⟨0, l, 0, rfl, by omega, hm⟩
  have hl : lpCk [.i 0, .l (l.map encP), .i (l.length : Int), .i 0] = scanN (badAt l) (fun j => [.i 0, .i 1, .i (j : Int)]) (fun j => [.i 1, .i 0, .i (j : Int)]) l.length 0 := by
    simp only [lpCk, map_decP, List.length_map]; rfl
  have hc : chkD [.l (l.map encP), .i w, .i g] = [.i (cerr l w g)] := by simp only [chkD, map_decP]
  simp only [vt99, VT.ok, Nd.holds, X.outs, X.ds, X.d, Op1.ev, Op2.ev, List.cons_append, List.nil_append, List.getD_cons_zero, List.getD_cons_succ, D.int_i, D.bool_b, D.lst_l, ite_b, ite_or, List.length_map, F19900, R19900, F99, hl, hc]
  refine ⟨fun _ => hpre, ?_⟩
  rcases scan_any (p := badAt l) (hit := fun j => [.i 0, .i 1, .i (j : Int)]) (miss := fun j => [.i 1, .i 0, .i (j : Int)]) l.length with ⟨h1, j, _, _, _, h2⟩ | ⟨h1, h2⟩
  · rw [h2]
    simp [cerr, h1]
  · rw [h2]
    simp only [takeD_zero, takeD_cons, List.getD_cons_zero, List.getD_cons_succ, D.int_i, cerr, h1, Bool.false_eq_true, if_false, arg_cond, show ((1 : Int) == 0) = false from rfl]
    by_cases ha : argBad w g = true
    · simp only [if_pos ha]
    · simp only [if_neg ha]
      by_cases h64 : 64 < l.length
      · rw [if_pos h64, if_pos (decide_eq_true (by omega))]
      · rw [if_neg h64, if_neg (by rw [decide_eq_false (by omega)]; decide)]
theorem m64 : Meets Try.prog 64 S64 (R 64) (F 64) := by
  refine meets_of_vt (pre := R) (Φ := F) mixed (sgAt_all (P := Try.prog) (pre := R) (Φ := F) (l := sg64) ((fun _ h => nomatch h))) Try.func64 b64 n64 (loops_n 1 k64 fun k hk => match k, hk with | 0, _ => loop_this lf64_0 loopM64_0) e64 fun ds _ hp => ?_
  obtain ⟨l, w, g, rfl, hm⟩ : chkPre ds := hp
  have hpre : prCr [.l (l.map encP), .i 0, .i 0] := ⟨0, l, 0, rfl, by omega, hm⟩
  have hl : lpCr [.l (l.map encP), .i 0, .i 0] = scanN (badAt l) (fun j => [.i 0, .i 1, .i (j : Int)]) (fun j => [.i 1, .i 0, .i (j : Int)]) l.length 0 := by
    simp only [lpCr, map_decP, List.length_map]; rfl
  have hc : chkD [.l (l.map encP), .i w, .i g] = [.i (cerr l w g)] := by simp only [chkD, map_decP]
  simp only [vt64, VT.ok, Nd.holds, X.outs, X.ds, X.d, Op1.ev, Op2.ev, List.cons_append, List.nil_append, List.getD_cons_zero, List.getD_cons_succ, D.int_i, D.bool_b, D.lst_l, ite_b, ite_or, List.length_map, F16400, R16400, F64, hl, hc]
  refine ⟨fun _ => hpre, ?_⟩
  rcases scan_any (p := badAt l) (hit := fun j => [.i 0, .i 1, .i (j : Int)]) (miss := fun j => [.i 1, .i 0, .i (j : Int)]) l.length with ⟨h1, j, _, _, _, h2⟩ | ⟨h1, h2⟩
  · rw [h2]
    simp [cerr, h1]
  · rw [h2]
    simp only [takeD_zero, takeD_cons, List.getD_cons_zero, List.getD_cons_succ, D.int_i, cerr, h1, Bool.false_eq_true, if_false, arg_cond, show ((1 : Int) == 0) = false from rfl]
    by_cases ha : argBad w g = true
    · simp only [if_pos ha]
    · simp only [if_neg ha]
      by_cases h64 : 64 < l.length
      · rw [if_pos h64, if_pos (decide_eq_true (by omega))]
      · rw [if_neg h64, if_neg (by rw [decide_eq_false (by omega)]; decide)]
theorem loopM100_0 : LoopMeets Try.prog F (R L100_0.key) L100_0 lb100_0 := by
  refine loop_meets (pre := R) mixed (sgAt_all (P := Try.prog) (pre := R) (Φ := F) (l := sg100) ((fun _ h => nomatch h))) (loops_n 0 lk100_0 fun k hk => by omega) L100_0 (fun ρ => ((ρ.getD 6 default).int - (ρ.getD 7 default).int).toNat) le100_0 fun ρ _ hp => ?_
  obtain ⟨w, g, x, y, low, l, j, acc, rfl, hI, hwb⟩ : prSh ρ := hp
  have hI' := hI
  obtain ⟨_, h64, hg0, hj, hx, hy, hlow, hacc⟩ := hI'
  by_cases hlt : j < l.length
  · have hgt : (l.map encP).getD j [] = encP (l.getD j pz) := row_get pz hlt
    obtain ⟨hp, hb⟩ := shInv_at hI hlt
    have hN := shInv_new hI hlt
    have hO := shInv_on hI hlt
    have hdr := drop_at pz l hlt
    generalize hpp : l.getD j pz = p at *
    obtain ⟨a, b⟩ := p
    have hp1 : 0 ≤ a ∧ a ≤ 1048576 := hp.1
    have hp2 : 0 ≤ b ∧ b ≤ 1048576 := hp.2
    have w1 : IntKind.i64.wrap (x + a) = x + a := w64 (by omega)
    have w2 : IntKind.i64.wrap (low + g) = low + g := w64 (by omega)
    have w3 : IntKind.i64.wrap (0 + a) = a := by rw [w64 (by omega)]; omega
    have w4 : IntKind.i64.wrap (low + g + b) = low + g + b := w64 (by omega)
    have w5 : IntKind.i64.wrap (a + g) = a + g := w64 (by omega)
    have w6 : IntKind.i64.wrap (0 + (a + g)) = a + g := by rw [w64 (by omega)]; omega
    have w7 : IntKind.i64.wrap (y + b) = y + b := w64 (by omega)
    have w8 : IntKind.i64.wrap (x + (a + g)) = x + a + g := by rw [w64 (by omega)]; omega
    have w9 : IntKind.i64.wrap (x + a + g) = x + a + g := w64 (by omega)
    have len : ∀ q : Bx, decide (((acc ++ [q]).length : Int) ≤ 4398046511104) = true := fun q => decide_eq_true (by simp; omega)
    simp (disch := omega) only [rt100_0, VT.ok, Nd.holds, X.ds, X.d, Op1.ev, Op2.ev, List.getD_cons_zero, List.getD_cons_succ, D.int_i, D.bool_b, D.lst_l, ite_b, ite_and, imax, Int.toNat_natCast, List.length_map, implies_true, true_and, ↓reduceIte, dle_t, dlt_t, w64', hgt, encP, w1, w2, w3, w4, w5, w6, w7, w8, encQ_eq, cat_map, len]
    have hz : (!(((j : Nat) : Int) == 0)) = decide (0 < (j : Int)) := by
      rw [Bool.eq_iff_iff]; simp; omega
    have hz2 : ((((j + 1 : Nat) : Int)) == 0) = false := by
      rw [beq_eq_false_iff_ne]; omega
    split
    · rename_i hc
      refine round_next ⟨⟨w, g, a + g, low + g, max (low + g) (low + g + b), l, j + 1, acc ++ [(0, low + g, a, low + g + b)], rfl, hN _, hwb⟩, by show ((l.length : Int) - ((j + 1 : Nat) : Int)).toNat < ((l.length : Int) - (j : Int)).toNat; omega, ?_⟩
      show lpSh [.i w, .i g, .i (a + g), .i (low + g), .i (max (low + g) (low + g + b)), .l (l.map encP), .i (l.length : Int), .i ((j + 1 : Nat) : Int), .l ((acc ++ [(0, low + g, a, low + g + b)]).map encQ)] = lpSh [.i w, .i g, .i x, .i y, .i low, .l (l.map encP), .i (l.length : Int), .i (j : Int), .l (acc.map encQ)]
      simp only [lpSh, map_decP, map_decQ, List.length_map, Int.toNat_natCast, hdr, shelF, hz, hz2, hc, if_true]
    · rename_i hc
      refine round_next ⟨⟨w, g, x + a + g, y, max low (y + b), l, j + 1, acc ++ [(x, y, x + a, y + b)], rfl, hO _, hwb⟩, by show ((l.length : Int) - ((j + 1 : Nat) : Int)).toNat < ((l.length : Int) - (j : Int)).toNat; omega, ?_⟩
      show lpSh [.i w, .i g, .i (x + a + g), .i y, .i (max low (y + b)), .l (l.map encP), .i (l.length : Int), .i ((j + 1 : Nat) : Int), .l ((acc ++ [(x, y, x + a, y + b)]).map encQ)] = lpSh [.i w, .i g, .i x, .i y, .i low, .l (l.map encP), .i (l.length : Int), .i (j : Int), .l (acc.map encQ)]
      simp only [lpSh, map_decP, map_decQ, List.length_map, Int.toNat_natCast, hdr, shelF, hz, hz2, hc, if_false, Bool.false_eq_true]
  · have hj : j = l.length := by omega
    subst hj
    simp (disch := omega) only [rt100_0, VT.ok, X.ds, X.d, Op2.ev, List.getD_cons_zero, List.getD_cons_succ, D.int_i, D.bool_b, Bool.false_eq_true, ↓reduceIte, dlt_f]
    refine round_exit (by omega) ?_
    show lpSh [.i w, .i g, .i x, .i y, .i low, .l (l.map encP), .i (l.length : Int), .i (l.length : Int), .l (acc.map encQ)] = _
    simp only [lpSh, map_decP, map_decQ, List.length_map, Int.toNat_natCast, List.drop_length, shelF, shOut]
theorem loopM65_0 : LoopMeets Try.prog F (R L65_0.key) L65_0 lb65_0 := by
  refine loop_meets (pre := R) mixed (sgAt_all (P := Try.prog) (pre := R) (Φ := F) (l := sg65) (fcm ⟨m64, (fun _ h => nomatch h)⟩)) (loops_n 0 lk65_0 fun k hk => by omega) L65_0 (fun ρ => (((ρ.getD 0 default).lst.length : Int) - (ρ.getD 6 default).int).toNat) le65_0 fun ρ _ hp => ?_
  obtain ⟨w, g, x, y, low, l, j, acc, rfl, hI, hwb⟩ : prSr ρ := hp
  have hI' := hI
  obtain ⟨_, h64, hg0, hj, hx, hy, hlow, hacc⟩ := hI'
  by_cases hlt : j < l.length
  · have hgt : (l.map encP).getD j [] = encP (l.getD j pz) := row_get pz hlt
    obtain ⟨hp, hb⟩ := shInv_at hI hlt
    have hN := shInv_new hI hlt
    have hO := shInv_on hI hlt
    have hdr := drop_at pz l hlt
    generalize hpp : l.getD j pz = p at *
    obtain ⟨a, b⟩ := p
    have hp1 : 0 ≤ a ∧ a ≤ 1048576 := hp.1
    have hp2 : 0 ≤ b ∧ b ≤ 1048576 := hp.2
    have w1 : IntKind.i64.wrap (x + a) = x + a := w64 (by omega)
    have w2 : IntKind.i64.wrap (low + g) = low + g := w64 (by omega)
    have w3 : IntKind.i64.wrap (0 + a) = a := by rw [w64 (by omega)]; omega
    have w4 : IntKind.i64.wrap (low + g + b) = low + g + b := w64 (by omega)
    have w5 : IntKind.i64.wrap (a + g) = a + g := w64 (by omega)
    have w6 : IntKind.i64.wrap (0 + (a + g)) = a + g := by rw [w64 (by omega)]; omega
    have w7 : IntKind.i64.wrap (y + b) = y + b := w64 (by omega)
    have w8 : IntKind.i64.wrap (x + (a + g)) = x + a + g := by rw [w64 (by omega)]; omega
    have w9 : IntKind.i64.wrap (x + a + g) = x + a + g := w64 (by omega)
    have len : ∀ q : Bx, decide (((acc ++ [q]).length : Int) ≤ 4398046511104) = true := fun q => decide_eq_true (by simp; omega)
    simp (disch := omega) only [rt65_0, VT.ok, Nd.holds, X.ds, X.d, Op1.ev, Op2.ev, List.getD_cons_zero, List.getD_cons_succ, D.int_i, D.bool_b, D.lst_l, ite_b, ite_and, imax, Int.toNat_natCast, List.length_map, implies_true, true_and, ↓reduceIte, dle_t, dlt_t, w64', hgt, encP, w1, w2, w3, w4, w5, w7, w9, encQ_eq, cat_map, len]
    have hz : (!(((j : Nat) : Int) == 0)) = decide (0 < (j : Int)) := by
      rw [Bool.eq_iff_iff]; simp; omega
    have hz2 : ((((j + 1 : Nat) : Int)) == 0) = false := by
      rw [beq_eq_false_iff_ne]; omega
    split
    · rename_i hc
      refine round_next ⟨⟨w, g, a + g, low + g, max (low + g) (low + g + b), l, j + 1, acc ++ [(0, low + g, a, low + g + b)], rfl, hN _, hwb⟩, by show (((l.map encP).length : Int) - ((j + 1 : Nat) : Int)).toNat < (((l.map encP).length : Int) - (j : Int)).toNat; rw [List.length_map]; omega, ?_⟩
      show lpSr [.l (l.map encP), .i w, .i g, .i (a + g), .i (low + g), .i (max (low + g) (low + g + b)), .i ((j + 1 : Nat) : Int), .l ((acc ++ [(0, low + g, a, low + g + b)]).map encQ)] = lpSr [.l (l.map encP), .i w, .i g, .i x, .i y, .i low, .i (j : Int), .l (acc.map encQ)]
      simp only [lpSr, map_decP, map_decQ, List.length_map, Int.toNat_natCast, hdr, shelF, hz, hz2, hc, if_true]
    · rename_i hc
      refine round_next ⟨⟨w, g, x + a + g, y, max low (y + b), l, j + 1, acc ++ [(x, y, x + a, y + b)], rfl, hO _, hwb⟩, by show (((l.map encP).length : Int) - ((j + 1 : Nat) : Int)).toNat < (((l.map encP).length : Int) - (j : Int)).toNat; rw [List.length_map]; omega, ?_⟩
      show lpSr [.l (l.map encP), .i w, .i g, .i (x + a + g), .i y, .i (max low (y + b)), .i ((j + 1 : Nat) : Int), .l ((acc ++ [(x, y, x + a, y + b)]).map encQ)] = lpSr [.l (l.map encP), .i w, .i g, .i x, .i y, .i low, .i (j : Int), .l (acc.map encQ)]
      simp only [lpSr, map_decP, map_decQ, List.length_map, Int.toNat_natCast, hdr, shelF, hz, hz2, hc, if_false, Bool.false_eq_true]
  · have hj : j = l.length := by omega
    subst hj
    simp (disch := omega) only [rt65_0, VT.ok, X.ds, X.d, Op1.ev, Op2.ev, List.getD_cons_zero, List.getD_cons_succ, D.int_i, D.bool_b, D.lst_l, List.length_map, Bool.false_eq_true, ↓reduceIte, dlt_f]
    refine round_exit (by omega) ?_
    show lpSr [.l (l.map encP), .i w, .i g, .i x, .i y, .i low, .i (l.length : Int), .l (acc.map encQ)] = _
    simp only [lpSr, map_decP, map_decQ, List.length_map, Int.toNat_natCast, List.drop_length, shelF, shOut]
theorem m100 : Meets Try.prog 100 S100 (R 100) (F 100) := by
  refine meets_of_vt (pre := R) (Φ := F) mixed (sgAt_all (P := Try.prog) (pre := R) (Φ := F) (l := sg100) ((fun _ h => nomatch h))) Try.func100 b100 n100 (loops_n 1 k100 fun k hk => match k, hk with | 0, _ => loop_this lf100_0 loopM100_0) e100 fun ds _ hp => ?_
  obtain ⟨l, w, g, rfl, h1, h2, h3, h4⟩ : shPre ds := hp
  have hpre : prSh [.i w, .i g, .i 0, .i 0, .i 0, .l (l.map encP), .i (l.length : Int), .i 0, .l []] := ⟨w, g, 0, 0, 0, l, 0, [], rfl, ⟨h1, h2, h3, by omega, by omega, by omega, by omega, rfl⟩, h4⟩
  have hl : lpSh [.i w, .i g, .i 0, .i 0, .i 0, .l (l.map encP), .i (l.length : Int), .i 0, .l []] = shOut l.length (shelF w g true 0 0 0 [] l) := by
    simp only [lpSh, map_decP, List.length_map]; rfl
  simp only [vt100, VT.ok, Nd.holds, X.outs, X.ds, X.d, Op1.ev, takeD_zero, takeD_cons, List.cons_append, List.nil_append, List.getD_cons_zero, List.getD_cons_succ, D.bool_b, D.lst_l, List.length_map, F20000, R20000, F100, hl, shOut, shD, map_decP]
  exact ⟨fun _ => hpre, rfl⟩
theorem m65 : Meets Try.prog 65 S65 (R 65) (F 65) := by
  refine meets_of_vt (pre := R) (Φ := F) mixed (sgAt_all (P := Try.prog) (pre := R) (Φ := F) (l := sg65) (fcm ⟨m64, (fun _ h => nomatch h)⟩)) Try.func65 b65 n65 (loops_n 1 k65 fun k hk => match k, hk with | 0, _ => loop_this lf65_0 loopM65_0) e65 fun ds _ hp => ?_
  have hp' : chkPre ds := hp
  obtain ⟨l, w, g, rfl, hm⟩ : chkPre ds := hp
  have hc : chkD [.l (l.map encP), .i w, .i g] = [.i (cerr l w g)] := by simp only [chkD, map_decP]
  have hl : lpSr [.l (l.map encP), .i w, .i g, .i 0, .i 0, .i 0, .i 0, .l []] = shOut l.length (shelF w g true 0 0 0 [] l) := by
    simp only [lpSr, map_decP, List.length_map]; rfl
  simp only [vt65, VT.ok, Nd.holds, X.outs, X.ds, X.d, Op1.ev, Op2.ev, takeD_zero, takeD_cons, List.cons_append, List.nil_append, List.getD_cons_zero, List.getD_cons_succ, D.int_i, D.bool_b, F64, R64, F16500, R16500, F65, hc, hl, shOut, shelvesD, map_decP]
  refine ⟨fun _ => hp', ?_⟩
  by_cases h0 : cerr l w g = 0
  · have hb : (!(cerr l w g == 0)) = false := by simp [h0]
    obtain ⟨o1, o2, o3, o4⟩ := cerr_ok h0
    simp only [h0, if_true]
    exact ⟨fun _ => ⟨w, g, 0, 0, 0, l, 0, [], rfl, ⟨o1, o4, o3, by omega, by omega, by omega, by omega, rfl⟩, by omega⟩, rfl⟩
  · have hb : (!(cerr l w g == 0)) = true := by simp [h0]
    simp only [hb, if_true, h0, if_false]
    rfl
theorem loopM101_0 : LoopMeets Try.prog F (R L101_0.key) L101_0 lb101_0 := by
  refine loop_meets (pre := R) mixed (sgAt_all (P := Try.prog) (pre := R) (Φ := F) (l := sg101) ((fun _ h => nomatch h))) (loops_n 0 lk101_0 fun k hk => by omega) L101_0 (fun ρ => ((ρ.getD 2 default).int - (ρ.getD 3 default).int).toNat) le101_0 fun ρ _ hp => ?_
  obtain ⟨n, l, j, rfl, hj, hm⟩ : prEx ρ := hp
  rw [maxLen_val] at hm
  by_cases hlt : j < l.length
  · have hdr := drop_at z4 l hlt
    simp (disch := omega) only [rt101_0, VT.ok, Nd.holds, X.ds, X.d, Op1.ev, Op2.ev, List.getD_cons_zero, List.getD_cons_succ, D.int_i, D.bool_b, D.lst_l, imax, Int.toNat_natCast, List.length_map, implies_true, true_and, ↓reduceIte, dle_t, dlt_t, w64', rowQz, encQ]
    refine round_next ⟨⟨ext1 n (l.getD j z4), l, j + 1, rfl, by omega, hm⟩, by show ((l.length : Int) - ((j + 1 : Nat) : Int)).toNat < ((l.length : Int) - (j : Int)).toNat; omega, ?_⟩
    show lpEx [.i (ext1 n (l.getD j z4)), .l (l.map encQ), .i (l.length : Int), .i ((j + 1 : Nat) : Int)] = lpEx [.i n, .l (l.map encQ), .i (l.length : Int), .i (j : Int)]
    simp only [lpEx, map_decQ, List.length_map, Int.toNat_natCast, hdr, List.foldl_cons]
  · have hj : j = l.length := by omega
    subst hj
    simp (disch := omega) only [rt101_0, VT.ok, X.ds, X.d, Op2.ev, List.getD_cons_zero, List.getD_cons_succ, D.int_i, D.bool_b, Bool.false_eq_true, ↓reduceIte, dlt_f]
    refine round_exit (by omega) ?_
    show lpEx [.i n, .l (l.map encQ), .i (l.length : Int), .i (l.length : Int)] = _
    simp only [lpEx, map_decQ, List.length_map, Int.toNat_natCast, List.drop_length, List.foldl_nil]
theorem m101 : Meets Try.prog 101 S101 (R 101) (F 101) := by
  refine meets_of_vt (pre := R) (Φ := F) mixed (sgAt_all (P := Try.prog) (pre := R) (Φ := F) (l := sg101) ((fun _ h => nomatch h))) Try.func101 b101 n101 (loops_n 1 k101 fun k hk => match k, hk with | 0, _ => loop_this lf101_0 loopM101_0) e101 fun ds _ hp => ?_
  obtain ⟨l, rfl, hm⟩ : extPre ds := hp
  have hpre : prEx [.i 0, .l (l.map encQ), .i (l.length : Int), .i 0] := ⟨0, l, 0, rfl, by omega, hm⟩
  have hl : lpEx [.i 0, .l (l.map encQ), .i (l.length : Int), .i 0] = [.i 0, .i (exts l), .i (l.length : Int)] := by
    simp only [lpEx, map_decQ, List.length_map]; rfl
  simp only [vt101, VT.ok, Nd.holds, X.outs, X.ds, X.d, Op1.ev, takeD_zero, takeD_cons, List.cons_append, List.nil_append, List.getD_cons_zero, List.getD_cons_succ, D.bool_b, D.lst_l, List.length_map, and_true, F20100, R20100, F101, hl, extD, map_decQ]
  exact fun _ => hpre
theorem loopM66_0 : LoopMeets Try.prog F (R L66_0.key) L66_0 lb66_0 := by
  refine loop_meets (pre := R) mixed (sgAt_all (P := Try.prog) (pre := R) (Φ := F) (l := sg66) ((fun _ h => nomatch h))) (loops_n 0 lk66_0 fun k hk => by omega) L66_0 (fun ρ => (((ρ.getD 0 default).lst.length : Int) - (ρ.getD 2 default).int).toNat) le66_0 fun ρ _ hp => ?_
  obtain ⟨n, l, j, rfl, hj, hm⟩ : prEr ρ := hp
  rw [maxLen_val] at hm
  by_cases hlt : j < l.length
  · have hdr := drop_at z4 l hlt
    simp (disch := omega) only [rt66_0, VT.ok, Nd.holds, X.ds, X.d, Op1.ev, Op2.ev, List.getD_cons_zero, List.getD_cons_succ, D.int_i, D.bool_b, D.lst_l, imax, Int.toNat_natCast, List.length_map, implies_true, true_and, ↓reduceIte, dle_t, dlt_t, w64', rowQz, encQ]
    refine round_next ⟨⟨ext1 n (l.getD j z4), l, j + 1, rfl, by omega, hm⟩, by show (((l.map encQ).length : Int) - ((j + 1 : Nat) : Int)).toNat < (((l.map encQ).length : Int) - (j : Int)).toNat; rw [List.length_map]; omega, ?_⟩
    show lpEr [.l (l.map encQ), .i (ext1 n (l.getD j z4)), .i ((j + 1 : Nat) : Int)] = lpEr [.l (l.map encQ), .i n, .i (j : Int)]
    simp only [lpEr, map_decQ, List.length_map, Int.toNat_natCast, hdr, List.foldl_cons]
  · have hj : j = l.length := by omega
    subst hj
    simp (disch := omega) only [rt66_0, VT.ok, X.ds, X.d, Op1.ev, Op2.ev, List.getD_cons_zero, List.getD_cons_succ, D.int_i, D.bool_b, D.lst_l, List.length_map, Bool.false_eq_true, ↓reduceIte, dlt_f]
    refine round_exit (by omega) ?_
    show lpEr [.l (l.map encQ), .i n, .i (l.length : Int)] = _
    simp only [lpEr, map_decQ, List.length_map, Int.toNat_natCast, List.drop_length, List.foldl_nil]
theorem m66 : Meets Try.prog 66 S66 (R 66) (F 66) := by
  refine meets_of_vt (pre := R) (Φ := F) mixed (sgAt_all (P := Try.prog) (pre := R) (Φ := F) (l := sg66) ((fun _ h => nomatch h))) Try.func66 b66 n66 (loops_n 1 k66 fun k hk => match k, hk with | 0, _ => loop_this lf66_0 loopM66_0) e66 fun ds _ hp => ?_
  obtain ⟨l, rfl, hm⟩ : extPre ds := hp
  have hpre : prEr [.l (l.map encQ), .i 0, .i 0] := ⟨0, l, 0, rfl, by omega, hm⟩
  have hl : lpEr [.l (l.map encQ), .i 0, .i 0] = [.i 0, .i (exts l), .i (l.length : Int)] := by
    simp only [lpEr, map_decQ, List.length_map]; rfl
  simp only [vt66, VT.ok, Nd.holds, X.outs, X.ds, X.d, takeD_zero, takeD_cons, List.cons_append, List.nil_append, List.getD_cons_zero, List.getD_cons_succ, D.bool_b, and_true, F16600, R16600, F66, hl, extD, map_decQ]
  exact fun _ => hpre
end Go.Proofs.Ytindllmeeckfcaa.rv
namespace Go.Proofs.Ytindllmeeckfcaa.rv
set_option maxRecDepth 10000
open Go.RV
theorem nat_z (j : Nat) : (((j : Nat) : Int) == 0) = (j == 0) := by
  rw [Bool.eq_iff_iff]; simp
theorem loopM78_0 : LoopMeets Try.prog F (R L78_0.key) L78_0 lb78_0 := by
  refine loop_meets (pre := R) mixed (sgAt_all (P := Try.prog) (pre := R) (Φ := F) (l := sg78) (fcm ⟨m99, fcm ⟨m100, fcm ⟨m101, (fun _ h => nomatch h)⟩⟩⟩)) (loops_n 0 lk78_0 fun k hk => by omega) L78_0 (fun ρ => ((ρ.getD 5 default).int - (ρ.getD 6 default).int).toNat) le78_0 fun ρ _ hp => ?_
  obtain ⟨l, g, w, j, b, rfl, hI⟩ : prBe ρ := hp
  have hI' := hI
  obtain ⟨hs, h64, hg0, hj, hw0, hb64⟩ := hI'
  by_cases hlt : j < l.length
  · have hgt : (l.map encP).getD j [] = encP (l.getD j pz) := row_get pz hlt
    have hdr := drop_at pz l hlt
    have hat := beInv_at hI hlt
    have w1 : IntKind.i64.wrap (g + (l.getD j pz).1) = g + (l.getD j pz).1 := w64 (by omega)
    have w2 : IntKind.i64.wrap (w + (g + (l.getD j pz).1)) = w + (g + (l.getD j pz).1) := w64 (by omega)
    have hsh : ∀ v, shD [.l (l.map encP), .i v, .i g] = [.l ((shel v g l).map encQ)] := fun v => by simp only [shD, map_decP]
    have hex : ∀ q : List Bx, extD [.l (q.map encQ)] = [.i (exts q)] := fun q => by simp only [extD, map_decQ]
    simp (disch := omega) only [rt78_0, VT.ok, Nd.holds, X.outs, X.ds, X.d, Op1.ev, Op2.ev, takeD_zero, takeD_cons, List.cons_append, List.nil_append, List.getD_cons_zero, List.getD_cons_succ, D.int_i, D.bool_b, D.lst_l, ite_b, ite_or, Int.toNat_natCast, List.length_map, implies_true, true_and, F100, R100, F101, R101, ↓reduceIte, dle_t, dlt_t, w64', hgt, encP, w1, w2, hsh, hex, nat_z]
    have hl64 : (shel (w + (g + (l.getD j pz).1)) g l).length ≤ 64 := by rw [shel_len]; exact h64
    have hml : (shel (w + (g + (l.getD j pz).1)) g l).length ≤ maxLen := by rw [maxLen_val]; omega
    have hbl : b.length ≤ maxLen := by rw [maxLen_val]; omega
    refine ⟨fun _ => ⟨l, _, g, rfl, hs, h64, hg0, by omega⟩, fun _ => ⟨_, rfl, hml⟩, fun _ => ⟨_, rfl, hbl⟩, ?_⟩
    have key : ∀ b' : List Bx, b'.length ≤ 64 → (if (j == 0) = true ∨ exts (shel (w + (g + (l.getD j pz).1)) g l) < exts b then shel (w + (g + (l.getD j pz).1)) g l else b) = b' → RoundOk F (R L78_0.key) (fun ρ => ((ρ.getD 5 default).int - (ρ.getD 6 default).int).toNat) L78_0 [.l (l.map encP), .i g, .l (b.map encQ), .i w, .l (l.map encP), .i (l.length : Int), .i (j : Int)] [.i (-1), .l (b'.map encQ), .i (w + (g + (l.getD j pz).1)), .i ((j + 1 : Nat) : Int)] := by
      intro b' hb' he
      refine round_next ⟨⟨l, g, _, j + 1, b', rfl, beInv_next hI hlt hb'⟩, ?_, ?_⟩
      · show ((l.length : Int) - ((j + 1 : Nat) : Int)).toNat < ((l.length : Int) - (j : Int)).toNat
        omega
      · show lpBe [.l (l.map encP), .i g, .l (b'.map encQ), .i (w + (g + (l.getD j pz).1)), .l (l.map encP), .i (l.length : Int), .i ((j + 1 : Nat) : Int)] = lpBe [.l (l.map encP), .i g, .l (b.map encQ), .i w, .l (l.map encP), .i (l.length : Int), .i (j : Int)]
        simp only [lpBe, map_decP, map_decQ, Int.toNat_natCast, hdr, bstF, he]
    split
    · rename_i hc
      exact key _ hl64 (if_pos (by simpa using hc))
    · rename_i hc
      exact key _ hb64 (if_neg (by simpa using hc))
  · have hj : j = l.length := by omega
    subst hj
    simp (disch := omega) only [rt78_0, VT.ok, X.ds, X.d, Op2.ev, List.getD_cons_zero, List.getD_cons_succ, D.int_i, D.bool_b, Bool.false_eq_true, ↓reduceIte, dlt_f]
    refine round_exit (by omega) ?_
    show lpBe [.l (l.map encP), .i g, .l (b.map encQ), .i w, .l (l.map encP), .i (l.length : Int), .i (l.length : Int)] = _
    simp only [lpBe, map_decP, map_decQ, Int.toNat_natCast, List.drop_length, bstF]
theorem loopM33_0 : LoopMeets Try.prog F (R L33_0.key) L33_0 lb33_0 := by
  refine loop_meets (pre := R) mixed (sgAt_all (P := Try.prog) (pre := R) (Φ := F) (l := sg33) (fcm ⟨m64, fcm ⟨m65, fcm ⟨m66, (fun _ h => nomatch h)⟩⟩⟩)) (loops_n 0 lk33_0 fun k hk => by omega) L33_0 (fun ρ => (((ρ.getD 0 default).lst.length : Int) - (ρ.getD 4 default).int).toNat) le33_0 fun ρ _ hp => ?_
  obtain ⟨l, g, w, j, b, rfl, hI, hj0, hwp⟩ : prBf ρ := hp
  have hI' := hI
  obtain ⟨hs, h64, hg0, hj, hw0, hb64⟩ := hI'
  by_cases hlt : j < l.length
  · have hgt : (l.map encP).getD j [] = encP (l.getD j pz) := row_get pz hlt
    have hdr := drop_at pz l hlt
    have hat := beInv_at hI hlt
    have hsh : ∀ v, 0 ≤ v ∧ v ≤ 268435456 → shelvesD [.l (l.map encP), .i v, .i g] = [.l ((shel v g l).map encQ), .i 0] := fun v hv => by
      simp only [shelvesD, map_decP, cerr_any hs h64 hg0 hv, if_true]
    have hex : ∀ q : List Bx, extD [.l (q.map encQ)] = [.i (exts q)] := fun q => by simp only [extD, map_decQ]
    have hbl : b.length ≤ maxLen := by rw [maxLen_val]; omega
    have hml : ∀ v, (shel v g l).length ≤ maxLen := fun v => by rw [shel_len, maxLen_val]; omega
    have key : ∀ (v : Int) (b' : List Bx), v = (if (j : Int) = 0 then w - g else w) + (g + (l.getD j pz).1) → 0 ≤ v → b'.length ≤ 64 → (if (j == 0) = true ∨ exts (shel v g l) < exts b then shel v g l else b) = b' → RoundOk F (R L33_0.key) (fun ρ => (((ρ.getD 0 default).lst.length : Int) - (ρ.getD 4 default).int).toNat) L33_0 [.l (l.map encP), .i g, .l (b.map encQ), .i w, .i (j : Int)] [.i (-1), .l (b'.map encQ), .i v, .i ((j + 1 : Nat) : Int)] := by
      intro v b' hv hv0 hb' he
      have hbe : beInv l g v (j + 1) b' := by
        refine ⟨hs, h64, hg0, by omega, ?_, hb'⟩
        split at hv
        · have := hj0 (by omega); omega
        · omega
      refine round_next ⟨⟨l, g, v, j + 1, b', rfl, hbe, fun h => by omega, hv0⟩, ?_, ?_⟩
      · show (((l.map encP).length : Int) - ((j + 1 : Nat) : Int)).toNat < (((l.map encP).length : Int) - (j : Int)).toNat
        rw [List.length_map]; omega
      · show lpBf [.l (l.map encP), .i g, .l (b'.map encQ), .i v, .i ((j + 1 : Nat) : Int)] = lpBf [.l (l.map encP), .i g, .l (b.map encQ), .i w, .i (j : Int)]
        have hn : ¬ ((j + 1 : Nat) : Int) = 0 := by omega
        simp only [lpBf, map_decP, map_decQ, Int.toNat_natCast, hdr, bstF, hn, if_false, List.length_map, ← hv, he]
        rw [if_neg (by omega : ¬ l.length = j)]
        split
        · rename_i hx
          have : l.drop (j + 1) = [] := List.drop_of_length_le (by omega)
          rw [this]
          rfl
        · rfl
    by_cases hz : j = 0
    · subst hz
      have hw00 := hj0 rfl
      subst hw00
      have w2 : IntKind.i64.wrap (0 + (l.getD 0 pz).1) = 0 + (l.getD 0 pz).1 := w64 (by omega)
      simp (disch := omega) only [rt33_0, VT.ok, Nd.holds, X.outs, X.ds, X.d, Op1.ev, Op2.ev, takeD_zero, takeD_cons, List.cons_append, List.nil_append, List.getD_cons_zero, List.getD_cons_succ, D.int_i, D.bool_b, D.lst_l, Int.toNat_natCast, List.length_map, Bool.false_eq_true, implies_true, true_and, F65, R65, F66, R66, ↓reduceIte, dle_t, dlt_t, dlt_f, beq_t, w64', hgt, encP, w2, hsh _ (show 0 ≤ 0 + (l.getD 0 pz).1 ∧ 0 + (l.getD 0 pz).1 ≤ 268435456 by omega), hex]
      refine ⟨fun _ => ⟨l, _, g, rfl, by rw [maxLen_val]; omega⟩, fun _ => ⟨_, rfl, hml _⟩, fun _ => ⟨_, rfl, hbl⟩, ?_⟩
      exact key (0 + (l.getD 0 pz).1) _ (by rw [if_pos (by omega)]; omega) (by omega) (by rw [shel_len]; exact h64) (by simp)
    · have w1 : IntKind.i64.wrap (w + g) = w + g := w64 (by omega)
      have w2 : IntKind.i64.wrap (w + g + (l.getD j pz).1) = w + g + (l.getD j pz).1 := w64 (by omega)
      simp (disch := omega) only [rt33_0, VT.ok, Nd.holds, X.outs, X.ds, X.d, Op1.ev, Op2.ev, takeD_zero, takeD_cons, List.cons_append, List.nil_append, List.getD_cons_zero, List.getD_cons_succ, D.int_i, D.bool_b, D.lst_l, Int.toNat_natCast, List.length_map, Bool.false_eq_true, implies_true, true_and, F65, R65, F66, R66, ↓reduceIte, dle_t, dlt_t, beq_f, w64', hgt, encP, w1, w2, hsh _ (show 0 ≤ w + g + (l.getD j pz).1 ∧ w + g + (l.getD j pz).1 ≤ 268435456 by omega), hex]
      refine ⟨fun _ => ⟨l, _, g, rfl, by rw [maxLen_val]; omega⟩, fun _ => ⟨_, rfl, hml _⟩, fun _ => ⟨_, rfl, hbl⟩, ?_⟩
      split
      · rename_i hc
        exact key _ _ (by rw [if_neg (by omega)]; omega) (by omega) (by rw [shel_len]; exact h64) (if_pos (.inr (by simpa using hc)))
      · rename_i hc
        exact key _ _ (by rw [if_neg (by omega)]; omega) (by omega) hb64 (if_neg (by rintro (h | h); exact hz (by simpa using h); exact hc (by simpa using h)))
  · have hj : j = l.length := by omega
    subst hj
    simp (disch := omega) only [rt33_0, VT.ok, X.ds, X.d, Op1.ev, Op2.ev, List.getD_cons_zero, List.getD_cons_succ, D.int_i, D.bool_b, D.lst_l, List.length_map, Bool.false_eq_true, ↓reduceIte, dlt_f]
    refine round_exit (by omega) ?_
    show lpBf [.l (l.map encP), .i g, .l (b.map encQ), .i w, .i (l.length : Int)] = _
    simp only [lpBf, map_decP, map_decQ, Int.toNat_natCast, List.drop_length, bstF, List.length_map, if_true]
theorem m78 : Meets Try.prog 78 S78 (R 78) (F 78) := by
  refine meets_of_vt (pre := R) (Φ := F) mixed (sgAt_all (P := Try.prog) (pre := R) (Φ := F) (l := sg78) (fcm ⟨m99, fcm ⟨m100, fcm ⟨m101, (fun _ h => nomatch h)⟩⟩⟩)) Try.func78 b78 n78 (loops_n 1 k78 fun k hk => match k, hk with | 0, _ => loop_this lf78_0 loopM78_0) e78 fun ds _ hp => ?_
  obtain ⟨l, g, rfl, hm⟩ : bestPre ds := hp
  have hc : chkD [.l (l.map encP), .i 0, .i g] = [.i (cerr l 0 g)] := by simp only [chkD, map_decP]
  have hl : ∀ v, lpBe [.l (l.map encP), .i g, .l [], .i v, .l (l.map encP), .i (l.length : Int), .i 0] = [.i 0, .l ((bstF l g [] v 0 l).1.map encQ), .i (bstF l g [] v 0 l).2, .i (l.length : Int)] := by
    intro v
    simp only [lpBe, map_decP]; rfl
  simp only [vt78, VT.ok, Nd.holds, X.outs, X.ds, X.d, Op1.ev, Op2.ev, takeD_zero, takeD_cons, List.cons_append, List.nil_append, List.getD_cons_zero, List.getD_cons_succ, D.int_i, D.bool_b, D.lst_l, List.length_map, F99, R99, F17800, R17800, F78, hc, hl, bestD, map_decP]
  refine ⟨fun _ => ⟨l, 0, g, rfl, hm⟩, ?_⟩
  by_cases h0 : cerr l 0 g = 0
  · have hb : (!(cerr l 0 g == 0)) = false := by simp [h0]
    obtain ⟨o1, o2, o3, o4⟩ := cerr_ok h0
    have w1 : IntKind.i64.wrap (0 - g) = -g := by rw [w64 (by omega)]; omega
    simp only [h0, if_true, w1]
    exact ⟨fun _ => ⟨l, g, -g, 0, [], rfl, o1, o4, o3, by omega, by omega, by simp⟩, rfl⟩
  · have hb : (!(cerr l 0 g == 0)) = true := by simp [h0]
    simp only [hb, if_true, h0, if_false]
    rfl
theorem m33 : Meets Try.prog 33 S33 (R 33) (F 33) := by
  refine meets_of_vt (pre := R) (Φ := F) mixed (sgAt_all (P := Try.prog) (pre := R) (Φ := F) (l := sg33) (fcm ⟨m64, fcm ⟨m65, fcm ⟨m66, (fun _ h => nomatch h)⟩⟩⟩)) Try.func33 b33 n33 (loops_n 1 k33 fun k hk => match k, hk with | 0, _ => loop_this lf33_0 loopM33_0) e33 fun ds _ hp => ?_
  obtain ⟨l, g, rfl, hm⟩ : bestPre ds := hp
  have hc : chkD [.l (l.map encP), .i 0, .i g] = [.i (cerr l 0 g)] := by simp only [chkD, map_decP]
  have hl : ∃ v, lpBf [.l (l.map encP), .i g, .l [], .i 0, .i 0] = [.i 0, .l ((best l g).map encQ), .i v, .i (l.length : Int)] := by
    simp only [lpBf, map_decP, List.length_map]
    have : (0 : Int) - g = -g := by omega
    simp only [if_true, this]
    exact ⟨_, rfl⟩
  obtain ⟨v, hl⟩ := hl
  simp only [vt33, VT.ok, Nd.holds, X.outs, X.ds, X.d, Op1.ev, Op2.ev, takeD_zero, takeD_cons, List.cons_append, List.nil_append, List.getD_cons_zero, List.getD_cons_succ, D.int_i, D.bool_b, F64, R64, F13300, R13300, F33, hc, hl, bestD, map_decP]
  refine ⟨fun _ => ⟨l, 0, g, rfl, hm⟩, ?_⟩
  by_cases h0 : cerr l 0 g = 0
  · have hb : (!(cerr l 0 g == 0)) = false := by simp [h0]
    obtain ⟨o1, o2, o3, o4⟩ := cerr_ok h0
    simp only [h0, if_true]
    exact ⟨fun _ => ⟨l, g, 0, 0, [], rfl, ⟨o1, o4, o3, by omega, by omega, by simp⟩, fun _ => rfl, by omega⟩, trivial⟩
  · have hb : (!(cerr l 0 g == 0)) = true := by simp [h0]
    simp only [hb, if_true, h0, if_false]
    rfl
end Go.Proofs.Ytindllmeeckfcaa.rv
namespace Go.Proofs.Ytindllmeeckfcaa.rv
set_option maxRecDepth 10000
open Go.RV
theorem snoc_le {α : Type} (acc : List α) (z : α) (K : Int) (h : (acc.length : Int) + 1 ≤ K) : decide (((acc ++ [z]).length : Int) ≤ K) = true := decide_eq_true (by rw [List.length_append]; simp only [List.length_singleton]; omega)
theorem one1_t {p : Nat → Bool} {j : Nat} (h : p j = true) : one1 p j = [[.i (j : Int)]] := if_pos h
theorem one1_f {p : Nat → Bool} {j : Nat} (h : p j = false) : one1 p j = [] := if_neg (by rw [h]; decide)
theorem loopM22_0 : LoopMeets Try.prog F (R L22_0.key) L22_0 lb22_0 := by
  refine loop_meets (pre := R) mixed (sgAt_all (P := Try.prog) (pre := R) (Φ := F) (l := sg22) ((fun _ h => nomatch h))) (loops_n 0 lk22_0 fun k hk => by omega) L22_0 (fun ρ => ((ρ.getD 2 default).int - (ρ.getD 3 default).int).toNat) le22_0 fun ρ _ hp => ?_
  obtain ⟨c, N, j, acc, rfl, hj, h64, hacc⟩ : prOw ρ := hp
  by_cases hlt : j < N.length
  · have hn : ∀ acc' : List (List D), acc ++ one1 (ownP N c) j = acc' → RoundOk F (R L22_0.key) (fun ρ => ((ρ.getD 2 default).int - (ρ.getD 3 default).int).toNat) L22_0 [.i c, .l N, .i (N.length : Int), .i (j : Int), .l acc] [.i (-1), .i ((j + 1 : Nat) : Int), .l acc'] := fun acc' h => by
      subst h
      refine round_next ⟨⟨c, N, j + 1, _, rfl, by omega, h64, ?_⟩, ?_, ?_⟩
      · have := one1_len (ownP N c) j
        rw [List.length_append]; omega
      · show ((N.length : Int) - ((j + 1 : Nat) : Int)).toNat < ((N.length : Int) - (j : Int)).toNat
        omega
      · show lpOw (let acc' := acc ++ one1 (ownP N c) j; [.i c, .l N, .i (N.length : Int), .i ((j + 1 : Nat) : Int), .l acc']) = lpOw [.i c, .l N, .i (N.length : Int), .i (j : Int), .l acc]
        simp only [lpOw, Int.toNat_natCast]
        rw [coll_next (i := j) hlt acc]
    simp (disch := omega) only [rt22_0, VT.ok, Nd.holds, X.ds, X.d, Op1.ev, Op2.ev, List.getD_cons_zero, List.getD_cons_succ, D.int_i, D.bool_b, D.lst_l, Int.toNat_natCast, implies_true, true_and, ↓reduceIte, dle_t, dlt_t, w64', snoc_le]
    by_cases hc : (((N.getD j []).getD 4 default).int == c) = true
    · rw [if_pos hc]
      exact hn _ (by rw [one1_t (p := ownP N c) hc])
    · rw [if_neg hc]
      exact hn _ (by rw [one1_f (p := ownP N c) (Bool.eq_false_iff.2 hc), List.append_nil])
  · have hj : j = N.length := by omega
    subst hj
    simp (disch := omega) only [rt22_0, VT.ok, X.ds, X.d, Op2.ev, List.getD_cons_zero, List.getD_cons_succ, D.int_i, D.bool_b, Bool.false_eq_true, ↓reduceIte, dlt_f]
    refine round_exit (by omega) ?_
    show lpOw [.i c, .l N, .i (N.length : Int), .i (N.length : Int), .l acc] = _
    simp only [lpOw, Int.toNat_natCast, coll_end]
theorem loopM38_0 : LoopMeets Try.prog F (R L38_0.key) L38_0 lb38_0 := by
  refine loop_meets (pre := R) mixed (sgAt_all (P := Try.prog) (pre := R) (Φ := F) (l := sg38) ((fun _ h => nomatch h))) (loops_n 0 lk38_0 fun k hk => by omega) L38_0 (fun ρ => (((ρ.getD 4 default).lst.length : Int) - (ρ.getD 1 default).int).toNat) le38_0 fun ρ _ hp => ?_
  obtain ⟨c, g, j, acc, rfl, hj, h64, hacc⟩ : prOr ρ := hp
  by_cases hlt : j < g.N.length
  · have hn : ∀ acc' : List (List D), acc ++ one1 (ownP g.N c) j = acc' → RoundOk F (R L38_0.key) (fun ρ => (((ρ.getD 4 default).lst.length : Int) - (ρ.getD 1 default).int).toNat) L38_0 [.i c, .i (j : Int), .s g.nm, .b g.dr, .l g.N, .l g.E, .l g.C, .l acc] [.i (-1), .i ((j + 1 : Nat) : Int), .l acc'] := fun acc' h => by
      subst h
      refine round_next ⟨⟨c, g, j + 1, _, rfl, by omega, h64, ?_⟩, ?_, ?_⟩
      · have := one1_len (ownP g.N c) j
        rw [List.length_append]; omega
      · show ((g.N.length : Int) - ((j + 1 : Nat) : Int)).toNat < ((g.N.length : Int) - (j : Int)).toNat
        omega
      · show lpOr (let acc' := acc ++ one1 (ownP g.N c) j; [.i c, .i ((j + 1 : Nat) : Int), .s g.nm, .b g.dr, .l g.N, .l g.E, .l g.C, .l acc']) = lpOr [.i c, .i (j : Int), .s g.nm, .b g.dr, .l g.N, .l g.E, .l g.C, .l acc]
        simp only [lpOr, Int.toNat_natCast]
        rw [coll_next (i := j) hlt acc]
    simp (disch := omega) only [rt38_0, VT.ok, Nd.holds, X.ds, X.d, Op1.ev, Op2.ev, List.getD_cons_zero, List.getD_cons_succ, D.int_i, D.bool_b, D.lst_l, Int.toNat_natCast, implies_true, true_and, ↓reduceIte, dle_t, dlt_t, w64', snoc_le]
    by_cases hc : (((g.N.getD j []).getD 4 default).int == c) = true
    · rw [if_pos hc]
      exact hn _ (by rw [one1_t (p := ownP g.N c) hc])
    · rw [if_neg hc]
      exact hn _ (by rw [one1_f (p := ownP g.N c) (Bool.eq_false_iff.2 hc), List.append_nil])
  · have hj : j = g.N.length := by omega
    subst hj
    simp (disch := omega) only [rt38_0, VT.ok, X.ds, X.d, Op1.ev, Op2.ev, List.getD_cons_zero, List.getD_cons_succ, D.int_i, D.bool_b, D.lst_l, Bool.false_eq_true, ↓reduceIte, dlt_f]
    refine round_exit (by omega) ?_
    show lpOr [.i c, .i (g.N.length : Int), .s g.nm, .b g.dr, .l g.N, .l g.E, .l g.C, .l acc] = _
    simp only [lpOr, Int.toNat_natCast, coll_end]
theorem loopM41_0 : LoopMeets Try.prog F (R L41_0.key) L41_0 lb41_0 := by
  refine loop_meets (pre := R) mixed (sgAt_all (P := Try.prog) (pre := R) (Φ := F) (l := sg41) ((fun _ h => nomatch h))) (loops_n 0 lk41_0 fun k hk => by omega) L41_0 (fun ρ => (((ρ.getD 6 default).lst.length : Int) - (ρ.getD 1 default).int).toNat) le41_0 fun ρ _ hp => ?_
  obtain ⟨c, g, j, acc, rfl, hj, h64, hacc⟩ : prKr ρ := hp
  by_cases hlt : j < g.C.length
  · have hn : ∀ acc' : List (List D), acc ++ one1 (kidP g.C c) j = acc' → RoundOk F (R L41_0.key) (fun ρ => (((ρ.getD 6 default).lst.length : Int) - (ρ.getD 1 default).int).toNat) L41_0 [.i c, .i (j : Int), .s g.nm, .b g.dr, .l g.N, .l g.E, .l g.C, .l acc] [.i (-1), .i ((j + 1 : Nat) : Int), .l acc'] := fun acc' h => by
      subst h
      refine round_next ⟨⟨c, g, j + 1, _, rfl, by omega, h64, ?_⟩, ?_, ?_⟩
      · have := one1_len (kidP g.C c) j
        rw [List.length_append]; omega
      · show ((g.C.length : Int) - ((j + 1 : Nat) : Int)).toNat < ((g.C.length : Int) - (j : Int)).toNat
        omega
      · show lpKr (let acc' := acc ++ one1 (kidP g.C c) j; [.i c, .i ((j + 1 : Nat) : Int), .s g.nm, .b g.dr, .l g.N, .l g.E, .l g.C, .l acc']) = lpKr [.i c, .i (j : Int), .s g.nm, .b g.dr, .l g.N, .l g.E, .l g.C, .l acc]
        simp only [lpKr, Int.toNat_natCast]
        rw [coll_next (i := j) hlt acc]
    simp (disch := omega) only [rt41_0, VT.ok, Nd.holds, X.ds, X.d, Op1.ev, Op2.ev, List.getD_cons_zero, List.getD_cons_succ, D.int_i, D.bool_b, D.lst_l, Int.toNat_natCast, implies_true, true_and, ↓reduceIte, dle_t, dlt_t, w64', snoc_le]
    by_cases hc : (((g.C.getD j []).getD 1 default).int == c) = true
    · rw [if_pos hc]
      exact hn _ (by rw [one1_t (p := kidP g.C c) hc])
    · rw [if_neg hc]
      exact hn _ (by rw [one1_f (p := kidP g.C c) (Bool.eq_false_iff.2 hc), List.append_nil])
  · have hj : j = g.C.length := by omega
    subst hj
    simp (disch := omega) only [rt41_0, VT.ok, X.ds, X.d, Op1.ev, Op2.ev, List.getD_cons_zero, List.getD_cons_succ, D.int_i, D.bool_b, D.lst_l, Bool.false_eq_true, ↓reduceIte, dlt_f]
    refine round_exit (by omega) ?_
    show lpKr [.i c, .i (g.C.length : Int), .s g.nm, .b g.dr, .l g.N, .l g.E, .l g.C, .l acc] = _
    simp only [lpKr, Int.toNat_natCast, coll_end]
theorem fitsGc {s : List CT} {e1 e2 e3 : TypeId} {c1 c2 c3 : List CT} {ds : List D} (h : FitsF (.str :: .bool :: .sl e1 c1 :: .sl e2 c2 :: .sl e3 c3 :: s) ds) : ∃ (g : Gd) (ds' : List D), ds = .s g.nm :: .b g.dr :: .l g.N :: .l g.E :: .l g.C :: ds' ∧ FitsF s ds' := by
  obtain ⟨g, ds', e, h1, _⟩ := fitsG h
  exact ⟨g, ds', e, h1⟩
theorem m22 : Meets Try.prog 22 S22 (R 22) (F 22) := by
  refine meets_of_vt (pre := R) (Φ := F) mixed (sgAt_all (P := Try.prog) (pre := R) (Φ := F) (l := sg22) ((fun _ h => nomatch h))) Try.func22 b22 n22 (loops_n 1 k22 fun k hk => match k, hk with | 0, _ => loop_this lf22_0 loopM22_0) e22 fun ds _ hp => ?_
  obtain ⟨p, c, rfl, hf⟩ : ownCP ds := hp
  have hpre : prOw [.i c, .l p.g.N, .i (p.g.N.length : Int), .i 0, .l []] := ⟨c, p.g.N, 0, [], rfl, by omega, hf.1, by simp⟩
  simp only [vt22, VT.ok, Nd.holds, X.outs, X.ds, X.d, Op1.ev, List.cons_append, List.nil_append, List.getD_cons_zero, List.getD_cons_succ, D.bool_b, D.lst_l, implies_true, true_and, F12200, R12200, F22, Pn.d, D.ptd_p, Pn.l, List.length_cons, List.length_nil, show ((0 + 1 + 1 + 1 + 1 + 1 + 1 + 1 + 1 + 1 + 1 + 1 + 1 + 1 : Nat) == 13) = true from rfl]
  refine ⟨fun _ => hpre, ?_⟩
  show [D.l ([] ++ collN (one1 (ownP p.g.N c)) p.g.N.length 0)] = [D.l ((ownL p.g.N c).map encN)]
  rw [List.nil_append, one1_pick]; rfl
theorem m38 : Meets Try.prog 38 S38 (R 38) (F 38) := by
  refine meets_of_vt (pre := R) (Φ := F) mixed (sgAt_all (P := Try.prog) (pre := R) (Φ := F) (l := sg38) ((fun _ h => nomatch h))) Try.func38 b38 n38 (loops_n 1 k38 fun k hk => match k, hk with | 0, _ => loop_this lf38_0 loopM38_0) e38 fun ds hf hp => ?_
  obtain ⟨g, ds', rfl, h1⟩ := fitsGc hf.flat
  obtain ⟨x, rfl, hx⟩ := fits1 h1
  obtain ⟨c, rfl, _⟩ := wf_i64 hx
  have h64 : g.N.length ≤ 64 := hp
  have hpre : prOr [.i c, .i 0, .s g.nm, .b g.dr, .l g.N, .l g.E, .l g.C, .l []] := ⟨c, g, 0, [], rfl, by omega, h64, by simp⟩
  simp only [vt38, VT.ok, Nd.holds, X.outs, X.ds, X.d, List.cons_append, List.nil_append, List.getD_cons_zero, List.getD_cons_succ, D.bool_b, F13800, R13800, F38]
  refine ⟨fun _ => hpre, ?_⟩
  show [D.l ([] ++ collN (one1 (ownP g.N c)) g.N.length 0)] = [D.l ((ownL g.N c).map encN)]
  rw [List.nil_append, one1_pick]; rfl
theorem m41 : Meets Try.prog 41 S41 (R 41) (F 41) := by
  refine meets_of_vt (pre := R) (Φ := F) mixed (sgAt_all (P := Try.prog) (pre := R) (Φ := F) (l := sg41) ((fun _ h => nomatch h))) Try.func41 b41 n41 (loops_n 1 k41 fun k hk => match k, hk with | 0, _ => loop_this lf41_0 loopM41_0) e41 fun ds hf hp => ?_
  obtain ⟨g, ds', rfl, h1⟩ := fitsGc hf.flat
  obtain ⟨x, rfl, hx⟩ := fits1 h1
  obtain ⟨c, rfl, _⟩ := wf_i64 hx
  have h64 : g.C.length ≤ 16 := hp
  have hpre : prKr [.i c, .i 0, .s g.nm, .b g.dr, .l g.N, .l g.E, .l g.C, .l []] := ⟨c, g, 0, [], rfl, by omega, h64, by simp⟩
  simp only [vt41, VT.ok, Nd.holds, X.outs, X.ds, X.d, List.cons_append, List.nil_append, List.getD_cons_zero, List.getD_cons_succ, D.bool_b, F14100, R14100, F41]
  refine ⟨fun _ => hpre, ?_⟩
  show [D.l ([] ++ collN (one1 (kidP g.C c)) g.C.length 0)] = [D.l ((kidL g.C c).map encN)]
  rw [List.nil_append, one1_pick]; rfl
theorem rowNn {l : List Nat} {i : Nat} (h : i < l.length) : (l.map encN).getD i [] = encN (l.getD i 0) := row_get 0 h
theorem getD_memN {l : List Nat} {i : Nat} (h : i < l.length) : l.getD i 0 ∈ l := getD_mem 0 h
theorem loopM39_0 : LoopMeets Try.prog F (R L39_0.key) L39_0 lb39_0 := by
  refine loop_meets (pre := R) mixed (sgAt_all (P := Try.prog) (pre := R) (Φ := F) (l := sg39) (fcm ⟨m38, fcm ⟨m35, (fun _ h => nomatch h)⟩⟩)) (loops_n 0 lk39_0 fun k hk => by omega) L39_0 (fun ρ => (((ρ.getD 1 default).lst.length : Int) - (ρ.getD 2 default).int).toNat) le39_0 fun ρ _ hp => ?_
  obtain ⟨B, l, j, acc, rfl, hj, h64, hl, hacc⟩ : prBr2 ρ := hp
  by_cases hlt : j < l.length
  · have hv : l.getD j 0 < B.length := hl _ (getD_memN hlt)
    have hd : l.drop j = l.getD j 0 :: l.drop (j + 1) := drop_at 0 l hlt
    simp (disch := omega) only [rt39_0, VT.ok, Nd.holds, X.ds, X.d, Op1.ev, Op2.ev, List.getD_cons_zero, List.getD_cons_succ, D.int_i, D.bool_b, D.lst_l, Int.toNat_natCast, List.length_map, implies_true, true_and, ↓reduceIte, dle_t, dlt_t, w64', snoc_le, rowNn, encN, rowQz, encQ]
    refine round_next ⟨⟨B, l, j + 1, _, rfl, by omega, h64, hl, ?_⟩, by show (((l.map encN).length : Int) - ((j + 1 : Nat) : Int)).toNat < (((l.map encN).length : Int) - (j : Int)).toNat; rw [List.length_map]; omega, ?_⟩
    · rw [List.length_append]; simp only [List.length_singleton]; omega
    · show lpBr2 [.l (B.map encQ), .l (l.map encN), .i ((j + 1 : Nat) : Int), .l (acc ++ [encQ (B.getD (l.getD j 0) z4)])] = lpBr2 [.l (B.map encQ), .l (l.map encN), .i (j : Int), .l acc]
      simp only [lpBr2, Int.toNat_natCast, map_decN, List.length_map, hd, boxesAt, List.map_cons, List.append_assoc, List.singleton_append, map_decQ]
  · have hj : j = l.length := by omega
    subst hj
    simp (disch := omega) only [rt39_0, VT.ok, X.ds, X.d, Op1.ev, Op2.ev, List.getD_cons_zero, List.getD_cons_succ, D.int_i, D.bool_b, D.lst_l, List.length_map, Bool.false_eq_true, ↓reduceIte, dlt_f]
    refine round_exit (by omega) ?_
    show lpBr2 [.l (B.map encQ), .l (l.map encN), .i (l.length : Int), .l acc] = _
    simp only [lpBr2, Int.toNat_natCast, map_decN, List.length_map, List.drop_length, boxesAt, List.map_nil, List.append_nil]
theorem loopM23_0 : LoopMeets Try.prog F (R L23_0.key) L23_0 lb23_0 := by
  refine loop_meets (pre := R) mixed (sgAt_all (P := Try.prog) (pre := R) (Φ := F) (l := sg23) (fcm ⟨m50, (fun _ h => nomatch h)⟩)) (loops_n 0 lk23_0 fun k hk => by omega) L23_0 (fun ρ => ((ρ.getD 2 default).int - (ρ.getD 3 default).int).toNat) le23_0 fun ρ _ hp => ?_
  obtain ⟨p, l, j, acc, rfl, hj, h64, hl, hacc⟩ : prBc2 ρ := hp
  by_cases hlt : j < l.length
  · have hv : l.getD j 0 < p.B.length := hl _ (getD_memN hlt)
    have hd : l.drop j = l.getD j 0 :: l.drop (j + 1) := drop_at 0 l hlt
    simp (disch := omega) only [rt23_0, VT.ok, Nd.holds, X.ds, X.d, Op1.ev, Op2.ev, List.getD_cons_zero, List.getD_cons_succ, D.int_i, D.bool_b, D.lst_l, Int.toNat_natCast, List.length_map, implies_true, true_and, ↓reduceIte, dle_t, dlt_t, w64', snoc_le, rowNn, encN, Pn.d, D.ptd_p, Pn.l, List.length_cons, List.length_nil, rowQz, encQ, show ((0 + 1 + 1 + 1 + 1 + 1 + 1 + 1 + 1 + 1 + 1 + 1 + 1 + 1 : Nat) == 13) = true from rfl]
    refine round_next ⟨⟨p, l, j + 1, _, rfl, by omega, h64, hl, ?_⟩, by show ((l.length : Int) - ((j + 1 : Nat) : Int)).toNat < ((l.length : Int) - (j : Int)).toNat; omega, ?_⟩
    · rw [List.length_append]; simp only [List.length_singleton]; omega
    · show lpBc2 [p.d, .l (l.map encN), .i (l.length : Int), .i ((j + 1 : Nat) : Int), .l (acc ++ [encQ (p.B.getD (l.getD j 0) z4)])] = lpBc2 [p.d, .l (l.map encN), .i (l.length : Int), .i (j : Int), .l acc]
      simp only [lpBc2, Int.toNat_natCast, map_decN, List.length_map, hd, boxesAt, List.map_cons, List.append_assoc, List.singleton_append, Pn.d, D.ptd_p, Pn.l, cL, List.getD_cons_zero, List.getD_cons_succ, D.lst_l, map_decQ]
  · have hj : j = l.length := by omega
    subst hj
    simp (disch := omega) only [rt23_0, VT.ok, X.ds, X.d, Op2.ev, List.getD_cons_zero, List.getD_cons_succ, D.int_i, D.bool_b, Bool.false_eq_true, ↓reduceIte, dlt_f]
    refine round_exit (by omega) ?_
    show lpBc2 [p.d, .l (l.map encN), .i (l.length : Int), .i (l.length : Int), .l acc] = _
    simp only [lpBc2, Int.toNat_natCast, map_decN, List.length_map, List.drop_length, boxesAt, List.map_nil, List.append_nil]
theorem own_lt {N : List (List D)} {c : Int} {n : Nat} (h : n = N.length) : ∀ v ∈ ownL N c, v < n := fun v hv => by
  have := (pick_lt hv).1
  omega
theorem m39 : Meets Try.prog 39 S39 (R 39) (F 39) := by
  refine meets_of_vt (pre := R) (Φ := F) mixed (sgAt_all (P := Try.prog) (pre := R) (Φ := F) (l := sg39) (fcm ⟨m38, fcm ⟨m35, (fun _ h => nomatch h)⟩⟩)) Try.func39 b39 n39 (loops_n 1 k39 fun k hk => match k, hk with | 0, _ => loop_this lf39_0 loopM39_0) e39 fun ds _ hp => ?_
  obtain ⟨g, B, c, rfl, h1, h2⟩ : blkRP ds := hp
  have hlen := pick_len (ownP g.N c) g.N.length
  have hpre : prBr2 [.l (B.map encQ), .l ((ownL g.N c).map encN), .i 0, .l []] := ⟨B, ownL g.N c, 0, [], rfl, by omega, by unfold ownL; omega, own_lt h2, by simp⟩
  have ho : ownRD [.s g.nm, .b g.dr, .l g.N, .l g.E, .l g.C, .i c] = [.l ((ownL g.N c).map encN)] := rfl
  have hl : lpBr2 [.l (B.map encQ), .l ((ownL g.N c).map encN), .i 0, .l []] = [.i 0, .i (((ownL g.N c).map encN).length : Int), .l ((boxesAt B (ownL g.N c)).map encQ)] := by
    simp only [lpBr2, map_decQ, map_decN, Int.toNat_zero, List.drop_zero, List.nil_append]
  simp only [vt39, VT.ok, Nd.holds, X.outs, X.ds, X.d, takeD_zero, takeD_cons, List.cons_append, List.nil_append, List.getD_cons_zero, List.getD_cons_succ, D.bool_b, List.length_map, implies_true, true_and, F35, R35, F38, R38, F13900, R13900, F39, ho, hl, uniD_typed, encQ]
  refine ⟨fun _ => h1, fun _ => hpre, ?_⟩
  show encQ (uni (boxesAt B (ownL g.N c))) = encQ (blk g.N ((B.map encQ).map decQ) c)
  rw [map_decQ]; rfl
theorem m23 : Meets Try.prog 23 S23 (R 23) (F 23) := by
  refine meets_of_vt (pre := R) (Φ := F) mixed (sgAt_all (P := Try.prog) (pre := R) (Φ := F) (l := sg23) (fcm ⟨m50, (fun _ h => nomatch h)⟩)) Try.func23 b23 n23 (loops_n 1 k23 fun k hk => match k, hk with | 0, _ => loop_this lf23_0 loopM23_0) e23 fun ds _ hp => ?_
  obtain ⟨p, l, rfl, h1, h2⟩ : blkCP ds := hp
  have hpre : prBc2 [p.d, .l (l.map encN), .i (l.length : Int), .i 0, .l []] := ⟨p, l, 0, [], rfl, by omega, h1, h2, by simp⟩
  have hl : lpBc2 [p.d, .l (l.map encN), .i (l.length : Int), .i 0, .l []] = [.i 0, .i (l.length : Int), .l ((boxesAt p.B l).map encQ)] := by
    simp only [lpBc2, Pn.d, D.ptd_p, Pn.l, cL, List.getD_cons_zero, List.getD_cons_succ, D.lst_l, map_decQ, map_decN, Int.toNat_zero, List.drop_zero, List.nil_append, List.length_map]
  simp only [vt23, VT.ok, Nd.holds, X.outs, X.ds, X.d, Op1.ev, takeD_zero, takeD_cons, List.cons_append, List.nil_append, List.getD_cons_zero, List.getD_cons_succ, D.bool_b, D.lst_l, List.length_map, implies_true, true_and, F50, R50, F12300, R12300, F23, hl, uniD_typed, encQ]
  refine ⟨fun _ => hpre, ?_⟩
  show encQ (uni (boxesAt p.B l)) = encQ (blkB ((p.B.map encQ).map decQ) ((l.map encN).map decN))
  rw [map_decQ, map_decN]; rfl
end Go.Proofs.Ytindllmeeckfcaa.rv
namespace Go.Proofs.Ytindllmeeckfcaa.rv
set_option maxRecDepth 10000
open Go.RV
theorem coll_pick {α : Type} (p : Nat → Bool) (f : Nat → α) (n : Nat) : collN (fun j => if p j = true then [f j] else []) n 0 = (pickN p n).map f := by
  unfold collN pickN
  rw [List.drop_zero]
  generalize List.range n = l
  induction l with
  | nil => rfl
  | cons a l ih =>
    rw [List.flatMap_cons, ih, List.filter_cons]
    split <;> rfl
theorem loopM34_0 : LoopMeets Try.prog F (R L34_0.key) L34_0 lb34_0 := by
  refine loop_meets (pre := R) mixed (sgAt_all (P := Try.prog) (pre := R) (Φ := F) (l := sg34) (fcm ⟨m38, fcm ⟨m39, fcm ⟨m41, (fun _ h => nomatch h)⟩⟩⟩)) (loops_n 0 lk34_0 fun k hk => by omega) L34_0 (fun ρ => (((ρ.getD 1 default).lst.length : Int) - (ρ.getD 2 default).int).toNat) le34_0 fun ρ _ hp => ?_
  obtain ⟨S, l, j, acc, rfl, hj, h64, hl, hacc⟩ : prPr ρ := hp
  by_cases hlt : j < l.length
  · have hv : l.getD j 0 < S.length := hl _ (getD_memN hlt)
    have hd : l.drop j = l.getD j 0 :: l.drop (j + 1) := drop_at 0 l hlt
    have hr : (S.map encZ).getD (l.getD j 0) [] = encZ (S.getD (l.getD j 0) pz) := row_get pz hv
    simp (disch := omega) only [rt34_0, VT.ok, Nd.holds, X.ds, X.d, Op1.ev, Op2.ev, List.getD_cons_zero, List.getD_cons_succ, D.int_i, D.bool_b, D.lst_l, Int.toNat_natCast, List.length_map, implies_true, true_and, ↓reduceIte, dle_t, dlt_t, w64', snoc_le, rowNn, encN, hr, encZ, encQ, szB]
    refine round_next ⟨⟨S, l, j + 1, _, rfl, by omega, h64, hl, ?_⟩, ?_, ?_⟩
    · rw [List.length_append]; simp only [List.length_singleton]; omega
    · show (((l.map encN).length : Int) - ((j + 1 : Nat) : Int)).toNat < (((l.map encN).length : Int) - (j : Int)).toNat
      rw [List.length_map]; omega
    · show lpPr [.l (S.map encZ), .l (l.map encN), .i ((j + 1 : Nat) : Int), .l (acc ++ [encP (S.getD (l.getD j 0) pz)])] = lpPr [.l (S.map encZ), .l (l.map encN), .i (j : Int), .l acc]
      simp only [lpPr, Int.toNat_natCast, map_decN, map_decZ, List.length_map, hd, sizesAt, List.map_cons, List.append_assoc, List.singleton_append]
  · have hj : j = l.length := by omega
    subst hj
    simp (disch := omega) only [rt34_0, VT.ok, X.ds, X.d, Op1.ev, Op2.ev, List.getD_cons_zero, List.getD_cons_succ, D.int_i, D.bool_b, D.lst_l, List.length_map, Bool.false_eq_true, ↓reduceIte, dlt_f]
    refine round_exit (by omega) ?_
    show lpPr [.l (S.map encZ), .l (l.map encN), .i (l.length : Int), .l acc] = _
    simp only [lpPr, Int.toNat_natCast, map_decN, map_decZ, List.length_map, List.drop_length, sizesAt, List.map_nil, List.append_nil]
theorem ext_i64 {q : Bx} (h : smQ q) : IntKind.i64.wrap (q.2.2.1 - q.1) = (extQ q).1 ∧ IntKind.i64.wrap (q.2.2.2 - q.2.1) = (extQ q).2 := by
  unfold smQ at h
  exact ⟨w64 (by omega), w64 (by omega)⟩
theorem m34 : Meets Try.prog 34 S34 (R 34) (F 34) := by
  refine meets_of_vt (pre := R) (Φ := F) mixed (sgAt_all (P := Try.prog) (pre := R) (Φ := F) (l := sg34) (fcm ⟨m38, fcm ⟨m39, fcm ⟨m41, (fun _ h => nomatch h)⟩⟩⟩)) Try.func34 b34 n34 (loops_n 1 k34 fun k hk => match k, hk with | 0, _ => loop_this lf34_0 loopM34_0) e34 fun ds _ hp => ?_
  obtain ⟨g, B, c, S, rfl, h1, h2, h3, h4⟩ : partRP ds := hp
  have hlen := pick_len (kidP g.C c) g.C.length
  have hlen2 := pick_len (ownP g.N c) g.N.length
  have ho : ownRD [.s g.nm, .b g.dr, .l g.N, .l g.E, .l g.C, .i c] = [.l ((ownL g.N c).map encN)] := rfl
  have hk : kidRD [.s g.nm, .b g.dr, .l g.N, .l g.E, .l g.C, .i c] = [.l ((kidL g.C c).map encN)] := rfl
  have hb : blkRD [.s g.nm, .b g.dr, .l g.N, .l g.E, .l g.C, .l (B.map encQ), .i c] = [.i (blk g.N B c).1, .i (blk g.N B c).2.1, .i (blk g.N B c).2.2.1, .i (blk g.N B c).2.2.2] := by
    show encQ (blk g.N ((B.map encQ).map decQ) c) = _
    rw [map_decQ]; rfl
  have hq := ext_i64 (q := blk g.N B c) (smQ_of (uni_ok _))
  have hpre : ∀ acc : List (List D), acc.length ≤ 1 → prPr [.l (S.map encZ), .l ((kidL g.C c).map encN), .i 0, .l acc] := fun acc ha => ⟨S, kidL g.C c, 0, acc, rfl, by omega, by unfold kidL; omega, fun v hv => by have := (pick_lt hv).1; omega, by omega⟩
  have hl : ∀ acc : List (List D), lpPr [.l (S.map encZ), .l ((kidL g.C c).map encN), .i 0, .l acc] = [.i 0, .i (((kidL g.C c).map encN).length : Int), .l (acc ++ (sizesAt S (kidL g.C c)).map encP)] := fun acc => by
    simp only [lpPr, map_decZ, map_decN, Int.toNat_zero, List.drop_zero]
  have hout : partRD [.s g.nm, .b g.dr, .l g.N, .l g.E, .l g.C, .l (B.map encQ), .i c, .l (S.map encZ)] = [.l ((partP g.N g.C B S c).map encP)] := by
    show [D.l ((partP g.N g.C ((B.map encQ).map decQ) ((S.map encZ).map decZ) c).map encP)] = _
    rw [map_decQ, map_decZ]
  simp only [vt34, VT.ok, Nd.holds, X.outs, X.ds, X.d, Op1.ev, Op2.ev, takeD_zero, takeD_cons, List.cons_append, List.nil_append, List.getD_cons_zero, List.getD_cons_succ, D.int_i, D.bool_b, D.lst_l, List.length_map, F38, R38, F41, R41, F39, R39, F13400, R13400, F34, ho, hk, hb, hl, hq.1, hq.2, hout]
  refine ⟨fun _ => h1, ?_⟩
  by_cases h0 : 0 < (ownL g.N c).length
  · rw [if_pos (decide_eq_true (by omega))]
    refine ⟨fun _ => ⟨g, B, c, rfl, h1, h3⟩, fun _ => by simp, fun _ => h2, fun _ => hpre _ (by simp), ?_⟩
    unfold partP
    rw [if_pos h0]
    rfl
  · rw [if_neg (by rw [decide_eq_false (by omega)]; decide)]
    refine ⟨fun _ => h2, fun _ => hpre _ (by simp), ?_⟩
    unfold partP
    rw [if_neg h0]
    rfl
theorem loopM49_0 : LoopMeets Try.prog F (R L49_0.key) L49_0 lb49_0 := by
  refine loop_meets (pre := R) mixed (sgAt_all (P := Try.prog) (pre := R) (Φ := F) (l := sg49) (fcm ⟨m22, fcm ⟨m23, fcm ⟨m29, fcm ⟨m78, fcm ⟨m50, (fun _ h => nomatch h)⟩⟩⟩⟩⟩)) (loops_n 0 lk49_0 fun k hk => by omega) L49_0 (fun ρ => ((ρ.getD 3 default).int - (ρ.getD 4 default).int).toNat) le49_0 fun ρ _ hp => ?_
  obtain ⟨p, c, j, ps, zs, rfl, hj, hf, hps, hzs⟩ : prPk ρ := hp
  have hf' := hf
  obtain ⟨f1, f2, f3, f4⟩ := hf'
  by_cases hlt : j < p.g.C.length
  · have hr : (p.S.map encP).getD j [] = encP (p.S.getD j pz) := row_get pz (by omega)
    have hn : ∀ ps' zs' : List (List D), ps ++ kidT p.g.C c j = ps' → zs ++ kidZ p.g.C p.S c j = zs' → RoundOk F (R L49_0.key) (fun ρ => ((ρ.getD 3 default).int - (ρ.getD 4 default).int).toNat) L49_0 [p.d, .i c, .l p.g.C, .i (p.g.C.length : Int), .i (j : Int), .l ps, .l zs] [.i (-1), .i ((j + 1 : Nat) : Int), .l ps', .l zs'] := fun ps' zs' h h' => by
      subst h h'
      refine round_next ⟨⟨p, c, j + 1, _, _, rfl, by omega, hf, ?_, ?_⟩, ?_, ?_⟩
      · rw [List.length_append]; unfold kidT; split <;> simp <;> omega
      · rw [List.length_append]; unfold kidZ; split <;> simp <;> omega
      · show ((p.g.C.length : Int) - ((j + 1 : Nat) : Int)).toNat < ((p.g.C.length : Int) - (j : Int)).toNat
        omega
      · show lpPk [p.d, .i c, .l p.g.C, .i (p.g.C.length : Int), .i ((j + 1 : Nat) : Int), .l (ps ++ kidT p.g.C c j), .l (zs ++ kidZ p.g.C p.S c j)] = lpPk [p.d, .i c, .l p.g.C, .i (p.g.C.length : Int), .i (j : Int), .l ps, .l zs]
        simp only [lpPk, Int.toNat_natCast, Pn.d, D.ptd_p, Pn.l, cL, List.getD_cons_zero, List.getD_cons_succ, D.lst_l, map_decP]
        rw [coll_next (f := kidT p.g.C c) (i := j) hlt ps, coll_next (f := kidZ p.g.C p.S c) (i := j) hlt zs]
    simp (disch := omega) only [rt49_0, VT.ok, Nd.holds, X.ds, X.d, Op1.ev, Op2.ev, List.getD_cons_zero, List.getD_cons_succ, D.int_i, D.bool_b, D.lst_l, Int.toNat_natCast, List.length_map, implies_true, true_and, ↓reduceIte, dle_t, dlt_t, w64', snoc_le, Pn.d, D.ptd_p, Pn.l, List.length_cons, List.length_nil, hr, encP, show ((0 + 1 + 1 + 1 + 1 + 1 + 1 + 1 + 1 + 1 + 1 + 1 + 1 + 1 : Nat) == 13) = true from rfl]
    by_cases hc : (((p.g.C.getD j []).getD 1 default).int == c) = true
    · rw [if_pos hc]
      exact hn _ _ (by rw [kidT, if_pos (show kidP p.g.C c j = true from hc)]; rfl) (by rw [kidZ, if_pos (show kidP p.g.C c j = true from hc)]; rfl)
    · rw [if_neg hc]
      exact hn _ _ (by rw [kidT, if_neg (show ¬ kidP p.g.C c j = true from hc), List.append_nil]) (by rw [kidZ, if_neg (show ¬ kidP p.g.C c j = true from hc), List.append_nil])
  · have hj : j = p.g.C.length := by omega
    subst hj
    simp (disch := omega) only [rt49_0, VT.ok, X.ds, X.d, Op2.ev, List.getD_cons_zero, List.getD_cons_succ, D.int_i, D.bool_b, Bool.false_eq_true, ↓reduceIte, dlt_f]
    refine round_exit (by omega) ?_
    show lpPk [p.d, .i c, .l p.g.C, .i (p.g.C.length : Int), .i (p.g.C.length : Int), .l ps, .l zs] = _
    simp only [lpPk, Int.toNat_natCast, coll_end]
theorem part1_len (hs : List Int) (b : List Bx) (j : Nat) : (part1 hs b j).length = hs.length := by
  unfold part1; rw [List.length_map, rowF_len]
theorem part1_at {hs : List Int} {b : List Bx} {j i : Nat} (h : i < hs.length) : el (part1 hs b j) i = encT (hs.getD i 0, if i < j then b.getD i z4 else z4) := by
  show ((rowF _ hs.length).map encT).getD i [] = _
  rw [row_get (enc := encT) ((0, z4) : Tp) (by rw [rowF_len]; exact h), rowF_get _ h]
theorem part1_set {hs : List Int} {b : List Bx} {j : Nat} (h : j < hs.length) : (part1 hs b j).set j (splice (el (part1 hs b j) j) 1 (encQ (b.getD j z4))) = part1 hs b (j + 1) := by
  rw [part1_at h, if_neg (Nat.lt_irrefl j)]
  have e : splice (encT (hs.getD j 0, z4)) 1 (encQ (b.getD j z4)) = encT (hs.getD j 0, b.getD j z4) := rfl
  rw [e]
  unfold part1
  rw [← List.map_set, rowF_set]
  congr 1
  refine rowF_congr fun v _ => ?_
  by_cases hv : v = j
  · subst hv; rw [if_pos rfl, if_pos (by omega)]
  · rw [if_neg hv]
    by_cases h1 : v < j
    · rw [if_pos h1, if_pos (by omega)]
    · rw [if_neg h1, if_neg (by omega)]
theorem part1_full {hs : List Int} {b : List Bx} (h : hs.length = b.length) : part1 hs b hs.length = (hs.zip b).map encT := by
  unfold part1
  congr 1
  refine List.ext_getElem (by simp [rowF, h]) fun i h1 h2 => ?_
  have hi : i < hs.length := by simpa [rowF] using h1
  simp only [rowF, List.getElem_map, List.getElem_range, if_pos hi, List.getElem_zip, List.getD, List.getElem?_eq_getElem hi, List.getElem?_eq_getElem (show i < b.length by omega), Option.getD_some]
theorem part1_zero (hs : List Int) (b : List Bx) : part1 hs b 0 = hs.map hd1 := by
  unfold part1
  refine List.ext_getElem (by simp [rowF]) fun i h1 h2 => ?_
  have hi : i < hs.length := by simpa [rowF] using h1
  simp only [rowF, List.getElem_map, List.getElem_range, Nat.not_lt_zero, if_false, List.getD, List.getElem?_eq_getElem hi, Option.getD_some, hd1]
theorem part1_hs (hs : List Int) (b : List Bx) (j : Nat) : (part1 hs b j).map (fun r => cI r 0) = hs := by
  unfold part1
  refine List.ext_getElem (by simp [rowF]) fun i h1 h2 => ?_
  have hi : i < hs.length := by simpa [rowF] using h1
  simp only [rowF, List.getElem_map, List.getElem_range, List.getD, List.getElem?_eq_getElem hi, Option.getD_some]
  rfl
theorem loopM49_1 : LoopMeets Try.prog F (R L49_1.key) L49_1 lb49_1 := by
  refine loop_meets (pre := R) mixed (sgAt_all (P := Try.prog) (pre := R) (Φ := F) (l := sg49) (fcm ⟨m22, fcm ⟨m23, fcm ⟨m29, fcm ⟨m78, fcm ⟨m50, (fun _ h => nomatch h)⟩⟩⟩⟩⟩)) (loops_n 0 lk49_1 fun k hk => by omega) L49_1 (fun ρ => ((ρ.getD 1 default).int - (ρ.getD 2 default).int).toNat) le49_1 fun ρ _ hp => ?_
  obtain ⟨b, hs, j, rfl, hj, hb, h64⟩ : prPl ρ := hp
  have hlen := part1_len hs b j
  by_cases hlt : j < hs.length
  · have hset := part1_set (b := b) hlt
    simp (disch := omega) only [rt49_1, VT.ok, Nd.holds, X.ds, X.d, Op1.ev, Op2.ev, List.getD_cons_zero, List.getD_cons_succ, D.int_i, D.bool_b, D.lst_l, Int.toNat_natCast, List.length_map, implies_true, true_and, ↓reduceIte, dle_t, dlt_t, w64', rowQz, encQ, hlen]
    refine round_next ⟨⟨b, hs, j + 1, ?_, by omega, hb, h64⟩, ?_, ?_⟩
    · show [D.l (b.map encQ), .i (hs.length : Int), .i ((j + 1 : Nat) : Int), .l ((part1 hs b j).set j (splice (el (part1 hs b j) j) 1 (encQ (b.getD j z4))))] = _
      rw [hset]
    · show ((hs.length : Int) - ((j + 1 : Nat) : Int)).toNat < ((hs.length : Int) - (j : Int)).toNat
      omega
    · show lpPl [.l (b.map encQ), .i (hs.length : Int), .i ((j + 1 : Nat) : Int), .l ((part1 hs b j).set j (splice (el (part1 hs b j) j) 1 (encQ (b.getD j z4))))] = lpPl [.l (b.map encQ), .i (hs.length : Int), .i (j : Int), .l (part1 hs b j)]
      rw [hset]
      simp only [lpPl, part1_len, part1_hs]
  · have hj : j = hs.length := by omega
    subst hj
    simp (disch := omega) only [rt49_1, VT.ok, X.ds, X.d, Op2.ev, List.getD_cons_zero, List.getD_cons_succ, D.int_i, D.bool_b, Bool.false_eq_true, ↓reduceIte, dlt_f]
    refine round_exit (by omega) ?_
    show lpPl [.l (b.map encQ), .i (hs.length : Int), .i (hs.length : Int), .l (part1 hs b hs.length)] = _
    simp only [lpPl, part1_len, part1_hs, map_decQ]
    rw [part1_full hb]
end Go.Proofs.Ytindllmeeckfcaa.rv
namespace Go.Proofs.Ytindllmeeckfcaa.rv
set_option maxRecDepth 10000
open Go.RV
theorem ownC_eq (p : Pn) (c : Int) : ownCD [p.d, .i c] = [.l ((ownL p.g.N c).map encN)] := rfl
theorem blkC_eq (p : Pn) (l : List Nat) : blkCD [p.d, .l (l.map encN)] = [.i (blkB p.B l).1, .i (blkB p.B l).2.1, .i (blkB p.B l).2.2.1, .i (blkB p.B l).2.2.2] := by
  show encQ (blkB ((p.B.map encQ).map decQ) ((l.map encN).map decN)) = _
  rw [map_decQ, map_decN]; rfl
theorem lpPk_eq (p : Pn) (c : Int) (ps zs : List (List D)) : lpPk [p.d, .i c, .l p.g.C, .i (p.g.C.length : Int), .i 0, .l ps, .l zs] = [.i 0, .i (p.g.C.length : Int), .l (ps ++ ((kidL p.g.C c).map fun k : Nat => hd1 (k : Int))), .l (zs ++ ((kidL p.g.C c).map fun k => encP (p.S.getD k pz)))] := by
  have h1 : collN (kidT p.g.C c) p.g.C.length 0 = (kidL p.g.C c).map fun k : Nat => hd1 (k : Int) := coll_pick (kidP p.g.C c) (fun k : Nat => hd1 (k : Int)) p.g.C.length
  have h2 : collN (kidZ p.g.C p.S c) p.g.C.length 0 = (kidL p.g.C c).map fun k => encP (p.S.getD k pz) := coll_pick (kidP p.g.C c) (fun k : Nat => encP (p.S.getD k pz)) p.g.C.length
  simp only [lpPk, Int.toNat_zero, Pn.d, D.ptd_p, Pn.l, cL, List.getD_cons_zero, List.getD_cons_succ, D.lst_l, map_decP]
  rw [h1, h2]
theorem bestD_eq (l : List Pt) (g : Int) : bestD [.l (l.map encP), .i g] = [.l ((if cerr l 0 g = 0 then best l g else []).map encQ), .i (cerr l 0 g)] := by simp only [bestD, map_decP]
theorem lpPl_eq {b : List Bx} {hs : List Int} {n : Int} (h : (hs.length : Int) = n) : lpPl [.l (b.map encQ), .i n, .i 0, .l (hs.map hd1)] = [.i 0, .i n, .l ((hs.zip b).map encT)] := by
  subst h
  have e : ((hs.map hd1).map fun r => cI r 0) = hs := by
    rw [List.map_map]
    have : ((fun r => cI r 0) ∘ hd1) = id := by funext k; rfl
    rw [this, List.map_id]
  simp only [lpPl, e, map_decQ, List.length_map]
theorem hdp {N C : List (List D)} {c : Int} (h : 0 < (ownL N c).length) : [[D.i (-1), D.i 0, D.i 0, D.i 0, D.i 0]] ++ ((kidL C c).map fun k : Nat => hd1 (k : Int)) = (heads N C c).map hd1 := by
  unfold heads
  rw [if_pos h, List.map_append, List.map_map]; rfl
theorem hdn {N C : List (List D)} {c : Int} (h : ¬ 0 < (ownL N c).length) : ((kidL C c).map fun k : Nat => hd1 (k : Int)) = (heads N C c).map hd1 := by
  unfold heads
  rw [if_neg h, List.nil_append, List.map_map]; rfl
theorem zsp {N C : List (List D)} {B : List Bx} {S : List Pt} {c : Int} (h : 0 < (ownL N c).length) : [[D.i (extQ (blkB B (ownL N c))).1, D.i (extQ (blkB B (ownL N c))).2]] ++ ((kidL C c).map fun k => encP (S.getD k pz)) = (partP N C B S c).map encP := by
  unfold partP
  rw [if_pos h, List.map_append, List.map_map]; rfl
theorem zsn {N C : List (List D)} {B : List Bx} {S : List Pt} {c : Int} (h : ¬ 0 < (ownL N c).length) : ((kidL C c).map fun k => encP (S.getD k pz)) = (partP N C B S c).map encP := by
  unfold partP
  rw [if_neg h, List.nil_append, List.map_map]; rfl
theorem uni_eq (l : List Bx) : uniD [.l (l.map encQ)] = [.i (uni l).1, .i (uni l).2.1, .i (uni l).2.2.1, .i (uni l).2.2.2] := uniD_typed l
theorem fnE_eq (q : Bx) (h : smQ q) : fn29 [.i q.1, .i q.2.1, .i q.2.2.1, .i q.2.2.2] = [.i (extQ q).1, .i (extQ q).2] := fn29_eq q h
theorem m49 : Meets Try.prog 49 S49 (R 49) (F 49) := by
  refine meets_of_vt (pre := R) (Φ := F) mixed (sgAt_all (P := Try.prog) (pre := R) (Φ := F) (l := sg49) (fcm ⟨m22, fcm ⟨m23, fcm ⟨m29, fcm ⟨m78, fcm ⟨m50, (fun _ h => nomatch h)⟩⟩⟩⟩⟩)) Try.func49 b49 n49 (loops_n 2 k49 fun k hk => match k, hk with | 0, _ => loop_this lf49_0 loopM49_0 | 1, _ => loop_this lf49_1 loopM49_1) e49 fun ds _ hp => ?_
  have hp0 : ownCP ds := hp
  obtain ⟨p, c, rfl, hf⟩ : ownCP ds := hp
  have hf' := hf
  obtain ⟨f1, f2, f3, f4⟩ := hf'
  have hsB : smQ (blkB p.B (ownL p.g.N c)) := smQ_of (uni_ok _)
  have hout : packD [p.d, .i c] = packR p c := by
    show packR (pnOf p.d) c = _
    rw [pnOf_d]
  have hownlen : (ownL p.g.N c).length ≤ p.g.N.length := pick_len (ownP p.g.N c) p.g.N.length
  have hPl := partP_len p.g.N p.g.C p.B p.S c
  have hml : (partP p.g.N p.g.C p.B p.S c).length ≤ maxLen := by rw [maxLen_val]; omega
  have hhl := heads_len p.g.N p.g.C p.B p.S c
  have hbl : (heads p.g.N p.g.C c).length = (best (partP p.g.N p.g.C p.B p.S c) p.o.ns).length := by rw [best_len, hhl]
  have hpl : ∀ n : Int, ((heads p.g.N p.g.C c).length : Int) = n → prPl [.l ((best (partP p.g.N p.g.C p.B p.S c) p.o.ns).map encQ), .i n, .i 0, .l ((heads p.g.N p.g.C c).map hd1)] := fun n hn => by
    subst hn
    exact ⟨_, heads p.g.N p.g.C c, 0, by rw [part1_zero]; rfl, by omega, hbl, by omega⟩
  have h13 : ((0 + 1 + 1 + 1 + 1 + 1 + 1 + 1 + 1 + 1 + 1 + 1 + 1 + 1 : Nat) == 13) = true := rfl
  have hee : (arP p).e p.S c = cerr (partP p.g.N p.g.C p.B p.S c) 0 p.o.ns := rfl
  have hR : ∀ (_ : ¬ cerr (partP p.g.N p.g.C p.B p.S c) 0 p.o.ns = 0), packR p c = [.l [], .i 0, .i 0, .i 2] := fun h => by
    unfold packR; rw [hee, if_neg h]
  have hR0 : ∀ (_ : cerr (partP p.g.N p.g.C p.B p.S c) 0 p.o.ns = 0), packR p c = [.l (((heads p.g.N p.g.C c).zip (best (partP p.g.N p.g.C p.B p.S c) p.o.ns)).map encT), .i (extQ (uni (best (partP p.g.N p.g.C p.B p.S c) p.o.ns))).1, .i (extQ (uni (best (partP p.g.N p.g.C p.B p.S c) p.o.ns))).2, .i 0] := fun h => by
    unfold packR; rw [hee, if_pos h]; rfl
  have hlk : ∀ ps zs, lpPk [p.d, .i c, .l (p.l.getD 4 default).lst, .i ((p.l.getD 4 default).lst.length : Int), .i 0, .l ps, .l zs] = [.i 0, .i (p.g.C.length : Int), .l (ps ++ ((kidL p.g.C c).map fun k : Nat => hd1 (k : Int))), .l (zs ++ ((kidL p.g.C c).map fun k => encP (p.S.getD k pz)))] := fun ps zs => lpPk_eq p c ps zs
  have hns : ((p.d).ptd.getD 6 default) = .i p.o.ns := rfl
  have hC : ((p.d).ptd.getD 4 default) = .l p.g.C := rfl
  have h13 : ((p.d).ptd.length == 13) = true := rfl
  simp only [vt49, VT.ok, Nd.holds, X.outs, X.ds, X.d, Op1.ev, Op2.ev, takeD_zero, takeD_cons, List.cons_append, List.nil_append, List.getD_cons_zero, List.getD_cons_succ, D.int_i, D.bool_b, D.lst_l, List.length_map, implies_true, true_and, F29, R29, F50, R50, F78, R78, F22, R22, F23, R23, F14900, R14900, F14901, R14901, F49, ownC_eq, hout]
  refine ⟨fun _ => hp0, ?_⟩
  by_cases h0 : 0 < (ownL p.g.N c).length
  · rw [if_pos (decide_eq_true (by omega))]
    simp only [blkC_eq, fnE_eq _ hsB, takeD_zero, takeD_cons, List.cons_append, List.nil_append, List.getD_cons_zero, List.getD_cons_succ, D.int_i, D.lst_l, List.length_map, implies_true, true_and, hns, hC, h13, lpPk_eq, hdp h0, zsp h0, bestD_eq]
    refine ⟨fun _ => by simp, fun _ => ⟨p, _, rfl, by omega, own_lt (by omega)⟩, fun _ => by simp, fun _ => ⟨p, c, 0, _, _, rfl, by omega, hf, by simp, by simp⟩, fun _ => ⟨_, _, rfl, hml⟩, ?_⟩
    by_cases hc : cerr (partP p.g.N p.g.C p.B p.S c) 0 p.o.ns = 0
    · have hb : (!(cerr (partP p.g.N p.g.C p.B p.S c) 0 p.o.ns == 0)) = false := by simp [hc]
      rw [hR0 hc]
      simp only [hc, if_true, takeD_zero, takeD_cons, List.cons_append, List.nil_append, List.getD_cons_zero, List.getD_cons_succ, if_true, and_true, lpPl_eq (b := best (partP p.g.N p.g.C p.B p.S c) p.o.ns) (hs := heads p.g.N p.g.C c) rfl, uni_eq, fnE_eq _ (smQ_of (uni_ok _))]
      exact fun _ => hpl _ rfl
    · have hb : (!(cerr (partP p.g.N p.g.C p.B p.S c) 0 p.o.ns == 0)) = true := by simp [hc]
      rw [hR hc, if_pos hb]
  · rw [if_neg (by rw [decide_eq_false (by omega)]; decide)]
    simp only [takeD_zero, takeD_cons, List.cons_append, List.nil_append, List.getD_cons_zero, List.getD_cons_succ, D.int_i, D.lst_l, List.length_map, implies_true, true_and, hns, hC, h13, lpPk_eq, hdn h0, zsn (B := p.B) h0, bestD_eq]
    refine ⟨fun _ => ⟨p, c, 0, _, _, rfl, by omega, hf, by simp, by simp⟩, fun _ => ⟨_, _, rfl, hml⟩, ?_⟩
    by_cases hc : cerr (partP p.g.N p.g.C p.B p.S c) 0 p.o.ns = 0
    · have hb : (!(cerr (partP p.g.N p.g.C p.B p.S c) 0 p.o.ns == 0)) = false := by simp [hc]
      rw [hR0 hc]
      simp only [hc, if_true, takeD_zero, takeD_cons, List.cons_append, List.nil_append, List.getD_cons_zero, List.getD_cons_succ, if_true, and_true, lpPl_eq (b := best (partP p.g.N p.g.C p.B p.S c) p.o.ns) (hs := heads p.g.N p.g.C c) rfl, uni_eq, fnE_eq _ (smQ_of (uni_ok _))]
      exact fun _ => hpl _ rfl
    · have hb : (!(cerr (partP p.g.N p.g.C p.B p.S c) 0 p.o.ns == 0)) = true := by simp [hc]
      rw [hR hc, if_pos hb]
end Go.Proofs.Ytindllmeeckfcaa.rv
