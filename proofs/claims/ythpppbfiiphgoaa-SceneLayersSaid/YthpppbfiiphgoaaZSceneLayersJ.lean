/-
  RV, part 22: slices.Clone and slices.Delete, walked.; Points and boxes: small functions of the program and the reference.; Chapter 53: the table of closed forms.; Paths and texts: what is valid, bounds.; Items.; Bounds of scenes; what is valid.; Graphs: names and labels.; Graphs: library functions.; Graphs: names' places, ports, nodes.; Graphs: nodes.
-/
import Derived.Test.YthpppbfiiphgoaaZSceneLayersI
namespace Go.Proofs.Ythpppbfiiphgoaa.rv
open Go.RV Go.RowKit Go.Lib
set_option maxHeartbeats 1000000 in
theorem cloneNil32 (w : World) : Calls Try.prog 32 #[.slice none 0 0] w fun e w' => e = .returned (.slice none 0 0) ∧ w' = w := by
  have t22 : Try.prog.underlying 48 = some (.slice 60) := by kernel_rfl
  have q22 : ∀ (w : World) (a : Option Addr) (n c n' c' : Nat), (binOp .eql 48 (.slice a n c) (.slice none n' c')).run Try.prog w = .ok (.bool a.isNone) w := fun w a n c n' c' => Lib.run_eql_slice_nil w _ _ a n c n' c' t22
  go_enter Try.func32, Try.ntmps32
  go_wp2
  go_ret
  exact ⟨rfl, rfl⟩
set_option maxHeartbeats 2000000 in
set_option maxRecDepth 100000 in
theorem cloneSome32 (w : World) (q : Addr) (n c : Nat) (news : List Value) (hl : news.length = n * 2) (hc : ∀ j u, news[j]? = some u → w.cell? (q.add j) = some u) (h1 : ∀ u ∈ news, u.oneCell' = true) (hn : n ≤ 8796093022208) :
      Calls Try.prog 32 #[.slice (some q) n c] w fun e' w' => ∃ v', e' = .returned v' ∧ w'.ownsRow w.heap.size 60 2 v' n news ∧ Below w.heap.size w w' := by
  have t22 : Try.prog.underlying 48 = some (.slice 60) := by kernel_rfl
  obtain ⟨i0, z, hi, hz0, hz1, hzs, hby, hsz⟩ := infoOk_spec (P := Try.prog) (e := 60) (k := 2) (B := 16) (by kernel_rfl)
  have q22 : ∀ (w : World) (a : Option Addr) (n c n' c' : Nat), (binOp .eql 48 (.slice a n c) (.slice none n' c')).run Try.prog w = .ok (.bool a.isNone) w := fun w a n c n' c' => Lib.run_eql_slice_nil w _ _ a n c n' c' t22
  have z23 : ∀ w, (Go.sizeOf 60).run Try.prog w = .ok 2 w := fun w => by simp [sizeOf, typeInfo, hi, hz1]
  have hbig : n * i0.bytes ≤ 140737488355328 := by
    have := Nat.mul_le_mul hn hby
    omega
  have A : Aside (∀ j u, news[j]? = some u → w.cell? (q.add j) = some u) := hc
  clear hc
  go_enter Try.func32, Try.ntmps32
  go_wp2_with (at_builtin; refine wpList_append_own _ rfl _ _ 48 rfl w.heap.size 60 i0 z 2 i0.bytes t22 hi hz0 hz1 rfl hzs hsz _ _ _ rfl (World.ownsRow_made w #[] 0 (Nat.le_refl _) (Nat.zero_le _) (by simp)) q n c news rfl ?qc1 ?qc2 ?qc3 ?qc4 ?qc5 ?qc6 ?_)
  case qc1 => exact hl
  case qc2 =>
    intro j u hj
    exact Lib.cell?_alloc_some _ (A.out j u hj)
  case qc3 => exact h1
  case qc4 => rw [Nat.zero_add]; unfold maxLen; omega
  case qc5 => rw [Nat.zero_add]; exact hbig
  case qc6 => simp
  intro v' w1 hown hgrow hnil
  go_wp2
  go_ret
  refine ⟨v', rfl, by simpa using hown, ?_⟩
  exact ((Below.refl _ w).alloc (Nat.le_refl _) _).grown hgrow (by simp) (by intro k hk; simp [Value.ownBlock] at hk; omega)
theorem m32 : Meets Try.prog 32 S32 (clonePreM 8796093022208) cloneD := clone_meets rfl rfl (by decide) (enter_of Try.func32 b32 n32) cloneNil32 cloneSome32
end Go.Proofs.Ythpppbfiiphgoaa.rv
namespace Go.Proofs.Ythpppbfiiphgoaa.rv
set_option maxRecDepth 10000
open Go.RV
theorem fn55_eq (a b : D) : fn55 [a, b] = [.b (ptB a.int b.int)] := by
  simp only [fn55, vt55, VT.val, X.ds, X.d, Op2.ev, List.getD_cons_zero, List.getD_cons_succ, D.int_i, D.bool_b, ite_b, ite_and, ptB, Bool.and_assoc]
theorem fn35_eq (a b c d : D) : fn35 [a, b, c, d] = [.b (bxB a.int b.int c.int d.int)] := by
  simp only [fn35, vt35, VT.val, X.outs, X.ds, X.d, Op2.ev, takeD_zero, takeD_cons, List.cons_append, List.nil_append, List.getD_cons_zero, List.getD_cons_succ, D.bool_b, ite_b, ite_and, show T35 55 = fn55 from rfl, fn55_eq, bxB]
end Go.Proofs.Ythpppbfiiphgoaa.rv
namespace Go.Proofs.Ythpppbfiiphgoaa.rv
set_option maxRecDepth 10000
open Go.RV
def one (_ : List D) : List D := [.b true]
def ctsG : List CT := [.str, .bool, .sl 58 [.str, .str, .int .i64, .int .i64, .int .i64, .sl 103 [.str, .int .i64]], .sl 75 [.int .i64, .int .i64, .int .i64, .int .i64, .str, .int .i64, .int .i64], .sl 52 [.str, .int .i64]]
def F : FuncId → List D → List D := tabOf [(77, fn77), (78, fn78), (16400, lpWord), (64, wordD), (65, fn65), (47, nameD), (74, fn74), (75, fn75), (15600, lpWord), (56, wordD), (57, fn57), (38, nameD), (80, fn80), (20059, dyNm), (17900, ixLp dyNm 6), (79, ixFn dyNm 6), (66, findD), (16700, lpLab), (67, labelD), (68, fn68), (82, fn82), (20104, dyNm), (18700, ixLp dyNm 2), (87, ixFn dyNm 2), (81, cfFn dyNm 2), (16900, lpPorts), (69, ports8D), (48, nodeD), (71, fn71), (20053, dyNm), (18300, ixLp dyNm 2), (83, ixFn dyNm 2), (70, cfFn dyNm 2), (18400, lpAr), (84, aroundD), (72, depthD), (49, cluD), (50, edgeD), (13000, lpV0), (13001, lpV1), (13002, lpV2), (30, validD), (15800, lpFind), (58, findD), (15900, lpPlain), (59, plainD), (16001, lpPortsR), (16000, lpPortsI), (60, portsD), (39, nodeD), (15400, lpDep), (54, depthD), (14000, lpCluR), (40, cluD), (41, edgeD), (12000, lpW0), (12001, lpW1), (12002, lpW2), (20, validD), (53, depED), (33, depED), (55, fn55), (46, fn46), (35, fn35), (27, fn27), (25, fn25), (111, fn111), (63, fn63), (20061, dyPt), (21200, ixLp dyPt 2), (112, ixFn dyPt 2), (110, cfFn dyPt 2), (20800, lpDis), (108, disD), (109, ptsD), (107, pathD), (20600, lpBn), (106, bndD), (12900, lpPa), (29, pathD), (12800, lpBr), (28, bndD), (20006, dyBy), (17600, ixLp dyBy 1), (76, ixFn dyBy 1), (62, cfFn dyBy 1), (45, plainD), (24, fn24), (44, usedD), (105, extL), (113, fn113), (22, itmD), (11300, lpBc), (12600, lpUn), (26, uniD), (13, bdsD), (11100, lpVc), (11, valD), (12300, lpIt), (23, itmD), (11400, lpBo), (14, bdsD), (11200, lpVr), (12, valD), (32, cloneD), (10900, lpFw), (9, fewD), (13400, lpE2 sameI2), (34, eqFn sameI2), (16100, eqLp sameI2), (61, eqFn sameI2), (43, sameItD), (71051, dySameI), (14200, eqfLp dySameI 8), (42, eqfFn dySameI 8), (21, sameSD), (11700, lpE3), (17, sameSD), (36, fn36), (37, fn37), (11800, lpM1), (11801, lpM0), (18, moveD), (11900, lpN1), (11901, lpN0), (19, moveD), (52, clpD), (24004, dyDep), (18500, lpSr1), (18501, lpSr0), (85, insD), (86, cloneD), (17300, lpZ0), (17301, lpZ0), (17302, lpZ1), (73, stbD), (51, srtD), (13100, lpId), (31, grpsD), (11500, lpB0), (11501, lpB1), (11502, lpB2), (11503, lpB3), (11504, lpB4), (15, buildD), (11600, lpC1), (11601, lpC0), (11602, lpC2), (11603, lpC3), (11604, lpC4), (11605, lpC5), (16, buildD), (10, one), (10800, lpBk0), (10801, lpBk1), (10600, lpLy0), (10601, lpLy1)]
def R : FuncId → List D → Prop := tabP [(16400, prWord), (15600, prWord), (20059, dpNm 80 [.str] 1 6), (17900, ixPr (dpNm 80 [.str] 1 6) 6), (79, ixPre (dpNm 80 [.str] 1 6) 6), (16700, prLab), (20104, dpNm 82 [.str, .int .i64] 2 2), (18700, ixPr (dpNm 82 [.str, .int .i64] 2 2) 2), (87, ixPre (dpNm 82 [.str, .int .i64] 2 2) 2), (81, ixPre (dpNm 82 [.str, .int .i64] 2 2) 2), (16900, prPorts), (48, prNode), (20053, dpNm 71 [.str, .int .i64] 2 2), (18300, ixPr (dpNm 71 [.str, .int .i64] 2 2) 2), (83, ixPre (dpNm 71 [.str, .int .i64] 2 2) 2), (70, ixPre (dpNm 71 [.str, .int .i64] 2 2) 2), (18400, prArL), (84, prAr), (72, prAr), (49, prClu), (13000, prV0), (13001, prV1), (13002, prV2), (15800, prFind), (15900, prPlain), (16001, prPortsR), (16000, prPortsI), (39, prNode), (15400, prDep), (54, prAr), (14000, prCluR), (40, prClu), (12000, prW0), (12001, prW1), (12002, prW2), (20061, dpPt 111), (21200, ixPr (dpPt 111) 2), (112, ixPre (dpPt 111) 2), (110, ixPre (dpPt 111) 2), (20800, prDis), (20600, prBn), (12900, prPa), (12800, prBr), (20006, dpBy 63), (17600, ixPr (dpBy 63) 1), (76, ixPre (dpBy 63) 1), (62, ixPre (dpBy 63) 1), (11300, prBc), (12600, prUn), (13, bdPre), (11100, prVc), (12300, prIt), (11400, prBo), (11200, prVr), (32, clonePreP), (10900, prFw), (13400, prE2), (16100, eqPr), (71051, dpSameI 43), (14200, eqfPr (dpSameI 43) 8), (42, eqfPre (dpSameI 43) 8), (11700, prE3), (11800, prM1), (11801, prM0), (11900, prN1), (11901, prN0), (52, prClp), (24004, dpDep 52 ctsG), (18500, prSr1 52 ctsG), (18501, prSr0 52 ctsG), (85, prIns 52 ctsG), (86, never), (17300, prZ0), (17301, never), (17302, prZ1), (73, prStb 52 ctsG), (51, prSt 52 ctsG), (13100, prId), (31, okV0), (11500, prB0), (11501, prB1), (11502, prB2), (11503, prB3), (11504, prB4), (15, prBuild), (11600, prC1), (11601, prC0), (11602, prC2), (11603, prC3), (11604, prC4), (11605, prC5), (16, prBuild), (10800, prBk0), (10801, prBk1), (10600, prLy0), (10601, prLy1)]
theorem F77 : F 77 = fn77 := rfl
theorem R77 : R 77 = fun _ => True := rfl
theorem F78 : F 78 = fn78 := rfl
theorem R78 : R 78 = fun _ => True := rfl
theorem F16400 : F 16400 = lpWord := rfl
theorem R16400 : R 16400 = prWord := rfl
theorem F64 : F 64 = wordD := rfl
theorem R64 : R 64 = fun _ => True := rfl
theorem F65 : F 65 = fn65 := rfl
theorem R65 : R 65 = fun _ => True := rfl
theorem F47 : F 47 = nameD := rfl
theorem R47 : R 47 = fun _ => True := rfl
theorem F74 : F 74 = fn74 := rfl
theorem R74 : R 74 = fun _ => True := rfl
theorem F75 : F 75 = fn75 := rfl
theorem R75 : R 75 = fun _ => True := rfl
theorem F15600 : F 15600 = lpWord := rfl
theorem R15600 : R 15600 = prWord := rfl
theorem F56 : F 56 = wordD := rfl
theorem R56 : R 56 = fun _ => True := rfl
theorem F57 : F 57 = fn57 := rfl
theorem R57 : R 57 = fun _ => True := rfl
theorem F38 : F 38 = nameD := rfl
theorem R38 : R 38 = fun _ => True := rfl
theorem F20059 : F 20059 = dyNm := rfl
theorem R20059 : R 20059 = dpNm 80 [.str] 1 6 := rfl
theorem F17900 : F 17900 = ixLp dyNm 6 := rfl
theorem R17900 : R 17900 = ixPr (dpNm 80 [.str] 1 6) 6 := rfl
theorem F79 : F 79 = ixFn dyNm 6 := rfl
theorem R79 : R 79 = ixPre (dpNm 80 [.str] 1 6) 6 := rfl
theorem F66 : F 66 = findD := rfl
theorem R66 : R 66 = fun _ => True := rfl
theorem F16700 : F 16700 = lpLab := rfl
theorem R16700 : R 16700 = prLab := rfl
theorem F67 : F 67 = labelD := rfl
theorem R67 : R 67 = fun _ => True := rfl
theorem F68 : F 68 = fn68 := rfl
theorem R68 : R 68 = fun _ => True := rfl
theorem F20104 : F 20104 = dyNm := rfl
theorem R20104 : R 20104 = dpNm 82 [.str, .int .i64] 2 2 := rfl
theorem F18700 : F 18700 = ixLp dyNm 2 := rfl
theorem R18700 : R 18700 = ixPr (dpNm 82 [.str, .int .i64] 2 2) 2 := rfl
theorem F87 : F 87 = ixFn dyNm 2 := rfl
theorem R87 : R 87 = ixPre (dpNm 82 [.str, .int .i64] 2 2) 2 := rfl
theorem F81 : F 81 = cfFn dyNm 2 := rfl
theorem R81 : R 81 = ixPre (dpNm 82 [.str, .int .i64] 2 2) 2 := rfl
theorem F16900 : F 16900 = lpPorts := rfl
theorem R16900 : R 16900 = prPorts := rfl
theorem F69 : F 69 = ports8D := rfl
theorem R69 : R 69 = fun _ => True := rfl
theorem F48 : F 48 = nodeD := rfl
theorem R48 : R 48 = prNode := rfl
theorem F20053 : F 20053 = dyNm := rfl
theorem R20053 : R 20053 = dpNm 71 [.str, .int .i64] 2 2 := rfl
theorem F18300 : F 18300 = ixLp dyNm 2 := rfl
theorem R18300 : R 18300 = ixPr (dpNm 71 [.str, .int .i64] 2 2) 2 := rfl
theorem F83 : F 83 = ixFn dyNm 2 := rfl
theorem R83 : R 83 = ixPre (dpNm 71 [.str, .int .i64] 2 2) 2 := rfl
theorem F70 : F 70 = cfFn dyNm 2 := rfl
theorem R70 : R 70 = ixPre (dpNm 71 [.str, .int .i64] 2 2) 2 := rfl
theorem F18400 : F 18400 = lpAr := rfl
theorem R18400 : R 18400 = prArL := rfl
theorem F84 : F 84 = aroundD := rfl
theorem R84 : R 84 = prAr := rfl
theorem F72 : F 72 = depthD := rfl
theorem R72 : R 72 = prAr := rfl
theorem F49 : F 49 = cluD := rfl
theorem R49 : R 49 = prClu := rfl
theorem F50 : F 50 = edgeD := rfl
theorem R50 : R 50 = fun _ => True := rfl
theorem F13000 : F 13000 = lpV0 := rfl
theorem R13000 : R 13000 = prV0 := rfl
theorem F13001 : F 13001 = lpV1 := rfl
theorem R13001 : R 13001 = prV1 := rfl
theorem F13002 : F 13002 = lpV2 := rfl
theorem R13002 : R 13002 = prV2 := rfl
theorem F30 : F 30 = validD := rfl
theorem R30 : R 30 = fun _ => True := rfl
theorem F15800 : F 15800 = lpFind := rfl
theorem R15800 : R 15800 = prFind := rfl
theorem F58 : F 58 = findD := rfl
theorem R58 : R 58 = fun _ => True := rfl
theorem F15900 : F 15900 = lpPlain := rfl
theorem R15900 : R 15900 = prPlain := rfl
theorem F59 : F 59 = plainD := rfl
theorem R59 : R 59 = fun _ => True := rfl
theorem F16001 : F 16001 = lpPortsR := rfl
theorem R16001 : R 16001 = prPortsR := rfl
theorem F16000 : F 16000 = lpPortsI := rfl
theorem R16000 : R 16000 = prPortsI := rfl
theorem F60 : F 60 = portsD := rfl
theorem R60 : R 60 = fun _ => True := rfl
theorem F39 : F 39 = nodeD := rfl
theorem R39 : R 39 = prNode := rfl
theorem F15400 : F 15400 = lpDep := rfl
theorem R15400 : R 15400 = prDep := rfl
theorem F54 : F 54 = depthD := rfl
theorem R54 : R 54 = prAr := rfl
theorem F14000 : F 14000 = lpCluR := rfl
theorem R14000 : R 14000 = prCluR := rfl
theorem F40 : F 40 = cluD := rfl
theorem R40 : R 40 = prClu := rfl
theorem F41 : F 41 = edgeD := rfl
theorem R41 : R 41 = fun _ => True := rfl
theorem F12000 : F 12000 = lpW0 := rfl
theorem R12000 : R 12000 = prW0 := rfl
theorem F12001 : F 12001 = lpW1 := rfl
theorem R12001 : R 12001 = prW1 := rfl
theorem F12002 : F 12002 = lpW2 := rfl
theorem R12002 : R 12002 = prW2 := rfl
theorem F20 : F 20 = validD := rfl
theorem R20 : R 20 = fun _ => True := rfl
theorem F53 : F 53 = depED := rfl
theorem R53 : R 53 = fun _ => True := rfl
theorem F35 : F 35 = fn35 := rfl
theorem R35 : R 35 = fun _ => True := rfl
theorem F25 : F 25 = fn25 := rfl
theorem R25 : R 25 = fun _ => True := rfl
theorem F20061 : F 20061 = dyPt := rfl
theorem R20061 : R 20061 = dpPt 111 := rfl
theorem F21200 : F 21200 = ixLp dyPt 2 := rfl
theorem R21200 : R 21200 = ixPr (dpPt 111) 2 := rfl
theorem F112 : F 112 = ixFn dyPt 2 := rfl
theorem R112 : R 112 = ixPre (dpPt 111) 2 := rfl
theorem F110 : F 110 = cfFn dyPt 2 := rfl
theorem R110 : R 110 = ixPre (dpPt 111) 2 := rfl
theorem F20800 : F 20800 = lpDis := rfl
theorem R20800 : R 20800 = prDis := rfl
theorem F108 : F 108 = disD := rfl
theorem R108 : R 108 = fun _ => True := rfl
theorem F109 : F 109 = ptsD := rfl
theorem R109 : R 109 = fun _ => True := rfl
theorem F107 : F 107 = pathD := rfl
theorem R107 : R 107 = fun _ => True := rfl
theorem F20600 : F 20600 = lpBn := rfl
theorem R20600 : R 20600 = prBn := rfl
theorem F106 : F 106 = bndD := rfl
theorem R106 : R 106 = fun _ => True := rfl
theorem F20006 : F 20006 = dyBy := rfl
theorem R20006 : R 20006 = dpBy 63 := rfl
theorem F17600 : F 17600 = ixLp dyBy 1 := rfl
theorem R17600 : R 17600 = ixPr (dpBy 63) 1 := rfl
theorem F76 : F 76 = ixFn dyBy 1 := rfl
theorem R76 : R 76 = ixPre (dpBy 63) 1 := rfl
theorem F62 : F 62 = cfFn dyBy 1 := rfl
theorem R62 : R 62 = ixPre (dpBy 63) 1 := rfl
theorem F45 : F 45 = plainD := rfl
theorem R45 : R 45 = fun _ => True := rfl
theorem F24 : F 24 = fn24 := rfl
theorem R24 : R 24 = fun _ => True := rfl
theorem F44 : F 44 = usedD := rfl
theorem R44 : R 44 = fun _ => True := rfl
theorem F105 : F 105 = extL := rfl
theorem R105 : R 105 = fun _ => True := rfl
theorem F113 : F 113 = fn113 := rfl
theorem R113 : R 113 = fun _ => True := rfl
theorem F22 : F 22 = itmD := rfl
theorem R22 : R 22 = fun _ => True := rfl
theorem F11300 : F 11300 = lpBc := rfl
theorem R11300 : R 11300 = prBc := rfl
theorem F12600 : F 12600 = lpUn := rfl
theorem R12600 : R 12600 = prUn := rfl
theorem F26 : F 26 = uniD := rfl
theorem R26 : R 26 = fun _ => True := rfl
theorem F13 : F 13 = bdsD := rfl
theorem R13 : R 13 = bdPre := rfl
theorem F11100 : F 11100 = lpVc := rfl
theorem R11100 : R 11100 = prVc := rfl
theorem F11 : F 11 = valD := rfl
theorem R11 : R 11 = fun _ => True := rfl
theorem F32 : F 32 = cloneD := rfl
theorem R32 : R 32 = clonePreP := rfl
theorem F10900 : F 10900 = lpFw := rfl
theorem R10900 : R 10900 = prFw := rfl
theorem F36 : F 36 = fn36 := rfl
theorem R36 : R 36 = fun _ => True := rfl
theorem F11800 : F 11800 = lpM1 := rfl
theorem R11800 : R 11800 = prM1 := rfl
theorem F11801 : F 11801 = lpM0 := rfl
theorem R11801 : R 11801 = prM0 := rfl
theorem F18 : F 18 = moveD := rfl
theorem R18 : R 18 = fun _ => True := rfl
theorem F52 : F 52 = clpD := rfl
theorem F24004 : F 24004 = dyDep := rfl
theorem R24004 : R 24004 = dpDep 52 ctsG := rfl
theorem F18500 : F 18500 = lpSr1 := rfl
theorem R18500 : R 18500 = prSr1 52 ctsG := rfl
theorem F18501 : F 18501 = lpSr0 := rfl
theorem R18501 : R 18501 = prSr0 52 ctsG := rfl
theorem F85 : F 85 = insD := rfl
theorem R85 : R 85 = prIns 52 ctsG := rfl
theorem F17300 : F 17300 = lpZ0 := rfl
theorem R17300 : R 17300 = prZ0 := rfl
theorem F17302 : F 17302 = lpZ1 := rfl
theorem R17302 : R 17302 = prZ1 := rfl
theorem F73 : F 73 = stbD := rfl
theorem R73 : R 73 = prStb 52 ctsG := rfl
theorem F51 : F 51 = srtD := rfl
theorem R51 : R 51 = prSt 52 ctsG := rfl
theorem F13100 : F 13100 = lpId := rfl
theorem R13100 : R 13100 = prId := rfl
theorem F31 : F 31 = grpsD := rfl
theorem R31 : R 31 = okV0 := rfl
theorem F11500 : F 11500 = lpB0 := rfl
theorem R11500 : R 11500 = prB0 := rfl
theorem F11501 : F 11501 = lpB1 := rfl
theorem R11501 : R 11501 = prB1 := rfl
theorem F11502 : F 11502 = lpB2 := rfl
theorem R11502 : R 11502 = prB2 := rfl
theorem F11503 : F 11503 = lpB3 := rfl
theorem R11503 : R 11503 = prB3 := rfl
theorem F11504 : F 11504 = lpB4 := rfl
theorem R11504 : R 11504 = prB4 := rfl
theorem F15 : F 15 = buildD := rfl
theorem R15 : R 15 = prBuild := rfl
theorem F10 : F 10 = one := rfl
theorem R10 : R 10 = fun _ => True := rfl
theorem F10600 : F 10600 = lpLy0 := rfl
theorem R10600 : R 10600 = prLy0 := rfl
theorem F10601 : F 10601 = lpLy1 := rfl
theorem R10601 : R 10601 = prLy1 := rfl
end Go.Proofs.Ythpppbfiiphgoaa.rv
namespace Go.Proofs.Ythpppbfiiphgoaa.rv
set_option maxRecDepth 10000
open Go.RV
theorem fn111_eq (a b : D) : fn111 [a, b] = [.b (!ptB a.int b.int)] := by
  simp only [fn111, vt111, VT.val, X.outs, X.ds, X.d, Op1.ev, takeD_zero, takeD_cons, List.cons_append, List.nil_append, List.getD_cons_zero, List.getD_cons_succ, D.bool_b, show T111 55 = fn55 from rfl, fn55_eq]
theorem m20061 : Meets Try.prog 20061 S20061 (R 20061) (F 20061) := by
  refine meets_dyn (by decide) rfl fun d ds hf hp => ?_
  obtain ⟨a, b, e⟩ : dpPt 111 (d :: ds) := hp
  cases e
  exact ⟨111, [], [], S111, _, fn111, rfl, by decide, m111, rfl, rfl, trivial, fn111_eq a b⟩
theorem fn63_eq (a : D) : fn63 [a] = [.b (decide (a.int < 32) || decide (126 < a.int))] := by
  simp only [fn63, vt63, VT.val, X.ds, X.d, Op2.ev, List.getD_cons_zero, D.int_i, D.bool_b, ite_b, ite_or]
theorem m20006 : Meets Try.prog 20006 S20006 (R 20006) (F 20006) := by
  refine meets_dyn (by decide) rfl fun d ds hf hp => ?_
  obtain ⟨a, e⟩ : dpBy 63 (d :: ds) := hp
  cases e
  exact ⟨63, [], [], S63, _, fn63, rfl, by decide, m63, rfl, rfl, trivial, fn63_eq a⟩
theorem loopM112_0 : LoopMeets Try.prog F (R L112_0.key) L112_0 lb112_0 := by
  refine loop_meets (pre := R) mixed (sgAt_all (P := Try.prog) (pre := R) (Φ := F) (l := sg112) (List.forall_mem_cons.2 ⟨Meets.at (pre := R) (Φ := F) m20061, (fun _ h => nomatch h)⟩)) (loops_n 0 lk112_0 fun k hk => by omega) L112_0 (fun ρ => ((ρ.getD 3 default).int - (ρ.getD 4 default).int).toNat) le112_0 fun ρ _ hq => ?_
  obtain ⟨xs, c, v, j, rfl, hj, hm, hp⟩ : ixPr (dpPt 111) 2 ρ := hq
  rw [maxLen_val] at hm
  by_cases hlt : j < xs.length
  · simp (disch := omega) only [rt112_0, VT.ok, Nd.holds, X.outs, X.ds, X.d, Op1.ev, Op2.ev, List.cons_append, List.nil_append, List.getD_cons_zero, List.getD_cons_succ, D.int_i, D.bool_b, D.lst_l, Int.toNat_natCast, implies_true, true_and, takeD1_0, F20061, R20061, ↓reduceIte, dle_t, dlt_t, w64']
    refine ⟨fun _ => hp j hlt, ?_⟩
    show if ((dyPt (c :: cellsN 2 (el xs j))).getD 0 default).bool = true then _ else _
    cases hb : ((dyPt (c :: cellsN 2 (el xs j))).getD 0 default).bool
    · simp only [Bool.false_eq_true, if_false]
      refine round_next ⟨⟨xs, c, v, j + 1, rfl, by omega, hm, hp⟩, ?_, ?_⟩
      · show ((xs.length : Int) - ((j + 1 : Nat) : Int)).toNat < ((xs.length : Int) - (j : Int)).toNat
        omega
      · show ixLp dyPt 2 [.l xs, c, v, .i (xs.length : Int), .i ((j + 1 : Nat) : Int)] = ixLp dyPt 2 [.l xs, c, v, .i (xs.length : Int), .i (j : Int)]
        simp only [ixLp, Int.toNat_natCast]
        exact scan_next hlt hb
    · simp only [if_true]
      refine round_exit (by omega) ?_
      show ixLp dyPt 2 [.l xs, c, v, .i (xs.length : Int), .i (j : Int)] = _
      simp only [ixLp, Int.toNat_natCast]
      exact scan_hit hlt hb
  · have hj' : j = xs.length := by omega
    subst hj'
    simp (disch := omega) only [rt112_0, VT.ok, X.ds, X.d, Op2.ev, List.getD_cons_zero, List.getD_cons_succ, D.int_i, D.bool_b, Bool.false_eq_true, ↓reduceIte, dlt_f]
    refine round_exit (by omega) ?_
    show ixLp dyPt 2 [.l xs, c, v, .i (xs.length : Int), .i (xs.length : Int)] = _
    simp only [ixLp, Int.toNat_natCast]
    exact scan_end
theorem m112 : Meets Try.prog 112 S112 (R 112) (F 112) := by
  refine meets_of_vt (pre := R) (Φ := F) mixed (sgAt_all (P := Try.prog) (pre := R) (Φ := F) (l := sg112) (List.forall_mem_cons.2 ⟨Meets.at (pre := R) (Φ := F) m20061, (fun _ h => nomatch h)⟩)) Try.func112 b112 n112 (loops_n 1 k112 fun k hk => match k, hk with | 0, _ => loop_this lf112_0 loopM112_0) e112 fun ds hf hq => ?_
  obtain ⟨x, c, rfl, hx, _⟩ := fits2 hf.flat
  obtain ⟨xs, rfl, hm, _⟩ := wf_sl hx
  have hq : ∀ i, i < xs.length → (dpPt 111) (c :: cellsN 2 (el xs i)) := hq
  have hpre : ixPr (dpPt 111) 2 [.l xs, c, .i 0, .i (xs.length : Int), .i 0] := ⟨xs, c, .i 0, 0, rfl, by omega, hm, hq⟩
  simp only [vt112, VT.ok, Nd.holds, X.outs, X.ds, X.d, Op1.ev, Op2.ev, List.cons_append, List.nil_append, List.getD_cons_zero, List.getD_cons_succ, D.int_i, D.bool_b, D.lst_l, F21200, R21200, F112]
  refine ⟨fun _ => hpre, ?_⟩
  simp only [ixLp, ixFn, Int.toNat_zero, Nat.sub_zero, scan_fs, ixI, cL, List.getD_cons_zero, List.getD_cons_succ, D.lst_l]
  split <;> rfl
theorem loopM76_0 : LoopMeets Try.prog F (R L76_0.key) L76_0 lb76_0 := by
  refine loop_meets (pre := R) mixed (sgAt_all (P := Try.prog) (pre := R) (Φ := F) (l := sg76) (List.forall_mem_cons.2 ⟨Meets.at (pre := R) (Φ := F) m20006, (fun _ h => nomatch h)⟩)) (loops_n 0 lk76_0 fun k hk => by omega) L76_0 (fun ρ => ((ρ.getD 3 default).int - (ρ.getD 4 default).int).toNat) le76_0 fun ρ _ hq => ?_
  obtain ⟨xs, c, v, j, rfl, hj, hm, hp⟩ : ixPr (dpBy 63) 1 ρ := hq
  rw [maxLen_val] at hm
  by_cases hlt : j < xs.length
  · simp (disch := omega) only [rt76_0, VT.ok, Nd.holds, X.outs, X.ds, X.d, Op1.ev, Op2.ev, List.cons_append, List.nil_append, List.getD_cons_zero, List.getD_cons_succ, D.int_i, D.bool_b, D.lst_l, Int.toNat_natCast, implies_true, true_and, takeD1_0, F20006, R20006, ↓reduceIte, dle_t, dlt_t, w64']
    refine ⟨fun _ => hp j hlt, ?_⟩
    show if ((dyBy (c :: cellsN 1 (el xs j))).getD 0 default).bool = true then _ else _
    cases hb : ((dyBy (c :: cellsN 1 (el xs j))).getD 0 default).bool
    · simp only [Bool.false_eq_true, if_false]
      refine round_next ⟨⟨xs, c, v, j + 1, rfl, by omega, hm, hp⟩, ?_, ?_⟩
      · show ((xs.length : Int) - ((j + 1 : Nat) : Int)).toNat < ((xs.length : Int) - (j : Int)).toNat
        omega
      · show ixLp dyBy 1 [.l xs, c, v, .i (xs.length : Int), .i ((j + 1 : Nat) : Int)] = ixLp dyBy 1 [.l xs, c, v, .i (xs.length : Int), .i (j : Int)]
        simp only [ixLp, Int.toNat_natCast]
        exact scan_next hlt hb
    · simp only [if_true]
      refine round_exit (by omega) ?_
      show ixLp dyBy 1 [.l xs, c, v, .i (xs.length : Int), .i (j : Int)] = _
      simp only [ixLp, Int.toNat_natCast]
      exact scan_hit hlt hb
  · have hj' : j = xs.length := by omega
    subst hj'
    simp (disch := omega) only [rt76_0, VT.ok, X.ds, X.d, Op2.ev, List.getD_cons_zero, List.getD_cons_succ, D.int_i, D.bool_b, Bool.false_eq_true, ↓reduceIte, dlt_f]
    refine round_exit (by omega) ?_
    show ixLp dyBy 1 [.l xs, c, v, .i (xs.length : Int), .i (xs.length : Int)] = _
    simp only [ixLp, Int.toNat_natCast]
    exact scan_end
theorem m76 : Meets Try.prog 76 S76 (R 76) (F 76) := by
  refine meets_of_vt (pre := R) (Φ := F) mixed (sgAt_all (P := Try.prog) (pre := R) (Φ := F) (l := sg76) (List.forall_mem_cons.2 ⟨Meets.at (pre := R) (Φ := F) m20006, (fun _ h => nomatch h)⟩)) Try.func76 b76 n76 (loops_n 1 k76 fun k hk => match k, hk with | 0, _ => loop_this lf76_0 loopM76_0) e76 fun ds hf hq => ?_
  obtain ⟨x, c, rfl, hx, _⟩ := fits2 hf.flat
  obtain ⟨xs, rfl, hm, _⟩ := wf_sl hx
  have hq : ∀ i, i < xs.length → (dpBy 63) (c :: cellsN 1 (el xs i)) := hq
  have hpre : ixPr (dpBy 63) 1 [.l xs, c, .i 0, .i (xs.length : Int), .i 0] := ⟨xs, c, .i 0, 0, rfl, by omega, hm, hq⟩
  simp only [vt76, VT.ok, Nd.holds, X.outs, X.ds, X.d, Op1.ev, Op2.ev, List.cons_append, List.nil_append, List.getD_cons_zero, List.getD_cons_succ, D.int_i, D.bool_b, D.lst_l, F17600, R17600, F76]
  refine ⟨fun _ => hpre, ?_⟩
  simp only [ixLp, ixFn, Int.toNat_zero, Nat.sub_zero, scan_fs, ixI, cL, List.getD_cons_zero, List.getD_cons_succ, D.lst_l]
  split <;> rfl
theorem m110 : Meets Try.prog 110 S110 (R 110) (F 110) := by
  refine meets_of_vt (pre := R) (Φ := F) mixed (sgAt_all (P := Try.prog) (pre := R) (Φ := F) (l := sg110) (List.forall_mem_cons.2 ⟨Meets.at (pre := R) (Φ := F) m112, (fun _ h => nomatch h)⟩)) Try.func110 b110 n110 (loops_n 0 k110 fun k hk => by omega) e110 fun ds hf hq => ?_
  obtain ⟨x, c, rfl, hx, _⟩ := fits2 hf.flat
  simp only [vt110, VT.ok, Nd.holds, X.outs, X.ds, X.d, Op2.ev, takeD_zero, takeD_cons, List.cons_append, List.nil_append, List.getD_cons_zero, List.getD_cons_succ, D.int_i, D.bool_b, and_true, F112, R112, F110, ixFn, cfFn, ixI_any]
  exact fun _ => hq
theorem m62 : Meets Try.prog 62 S62 (R 62) (F 62) := by
  refine meets_of_vt (pre := R) (Φ := F) mixed (sgAt_all (P := Try.prog) (pre := R) (Φ := F) (l := sg62) (List.forall_mem_cons.2 ⟨Meets.at (pre := R) (Φ := F) m76, (fun _ h => nomatch h)⟩)) Try.func62 b62 n62 (loops_n 0 k62 fun k hk => by omega) e62 fun ds hf hq => ?_
  obtain ⟨x, c, rfl, hx, _⟩ := fits2 hf.flat
  simp only [vt62, VT.ok, Nd.holds, X.outs, X.ds, X.d, Op2.ev, takeD_zero, takeD_cons, List.cons_append, List.nil_append, List.getD_cons_zero, List.getD_cons_succ, D.int_i, D.bool_b, and_true, F76, R76, F62, ixFn, cfFn, ixI_any]
  exact fun _ => hq
theorem loopM108_0 : LoopMeets Try.prog F (R L108_0.key) L108_0 lb108_0 := by
  refine loop_meets (pre := R) mixed (sgAt_all (P := Try.prog) (pre := R) (Φ := F) (l := sg108) ((fun _ h => nomatch h))) (loops_n 0 lk108_0 fun k hk => by omega) L108_0 (fun ρ => (((n1 (ρ.getD 0 default).lst.length : Nat) : Int) - (ρ.getD 2 default).int).toNat) le108_0 fun ρ _ hq => ?_
  obtain ⟨xs, v, j, rfl, hj, hm⟩ : prDis ρ := hq
  rw [maxLen_val] at hm
  have hn : n1 xs.length = max xs.length 1 := rfl
  by_cases hlt : j < n1 xs.length
  · simp (disch := omega) only [rt108_0, VT.ok, Nd.holds, X.ds, X.d, Op1.ev, Op2.ev, List.getD_cons_zero, List.getD_cons_succ, D.int_i, D.bool_b, D.lst_l, ite_b, ite_and, Int.toNat_natCast, implies_true, true_and, ↓reduceIte, dle_t, dlt_t, w64', pred_nat]
    have e : ((pX xs (j - 1) == pX xs j) && (pY xs (j - 1) == pY xs j)) = dupP xs j := by
      unfold dupP
      rw [decide_eq_true (by omega), Bool.true_and, Bool.beq_comm (a := pX xs (j - 1)), Bool.beq_comm (a := pY xs (j - 1))]
    show if ((pX xs (j - 1) == pX xs j) && (pY xs (j - 1) == pY xs j)) = true then _ else _
    rw [e]
    show if dupP xs j = true then _ else _
    cases hb : dupP xs j
    · simp only [Bool.false_eq_true, if_false]
      refine round_next ⟨⟨xs, v, j + 1, rfl, by omega, hm⟩, ?_, ?_⟩
      · show ((n1 xs.length : Int) - ((j + 1 : Nat) : Int)).toNat < ((n1 xs.length : Int) - (j : Int)).toNat
        omega
      · show lpDis [.l xs, v, .i ((j + 1 : Nat) : Int)] = lpDis [.l xs, v, .i (j : Int)]
        simp only [lpDis, Int.toNat_natCast]
        exact scan_next hlt hb
    · simp only [if_true]
      refine round_exit (by omega) ?_
      show lpDis [.l xs, v, .i (j : Int)] = _
      simp only [lpDis, Int.toNat_natCast]
      exact scan_hit hlt hb
  · have hj' : j = n1 xs.length := by omega
    subst hj'
    simp (disch := omega) only [rt108_0, VT.ok, X.ds, X.d, Op1.ev, Op2.ev, List.getD_cons_zero, List.getD_cons_succ, D.int_i, D.bool_b, D.lst_l, Bool.false_eq_true, ↓reduceIte, dlt_f]
    refine round_exit (by omega) ?_
    show lpDis [.l xs, v, .i (n1 xs.length : Int)] = _
    simp only [lpDis, Int.toNat_natCast]
    exact scan_end
theorem m108 : Meets Try.prog 108 S108 (R 108) (F 108) := by
  refine meets_of_vt (pre := R) (Φ := F) mixed (sgAt_all (P := Try.prog) (pre := R) (Φ := F) (l := sg108) ((fun _ h => nomatch h))) Try.func108 b108 n108 (loops_n 1 k108 fun k hk => match k, hk with | 0, _ => loop_this lf108_0 loopM108_0) e108 fun ds hf _ => ?_
  obtain ⟨x, rfl, hx⟩ := fits1 hf.flat
  obtain ⟨xs, rfl, hm, _⟩ := wf_sl hx
  have hpre : prDis [.l xs, .b false, .i 1] := ⟨xs, _, 1, rfl, ⟨by omega, (by unfold n1; omega)⟩, hm⟩
  simp only [vt108, VT.ok, Nd.holds, X.outs, X.ds, X.d, Op2.ev, List.cons_append, List.nil_append, List.getD_cons_zero, List.getD_cons_succ, D.int_i, D.bool_b, F20800, R20800, F108]
  refine ⟨fun _ => hpre, ?_⟩
  simp only [lpDis, disD, cL, List.getD_cons_zero, D.lst_l]
  have hn : n1 xs.length = max xs.length 1 := rfl
  have h0 : ∀ j, j < 1 → dupP xs j = false := fun j hj => by rw [show j = 0 by omega]; rfl
  rw [show Int.toNat 1 = 1 from rfl]
  rcases any_scan (p := dupP xs) (hit := fun j => [D.i 0, .b false, .i (j : Int)]) (miss := fun j => [D.i 1, .b false, .i (j : Int)]) (n := n1 xs.length) (i := 1) h0 (by omega) with ⟨h1, j, h2, h3, h4, _, h6⟩ | ⟨h1, h2⟩
  · have hj : j < xs.length := by omega
    have e : anyN (dupP xs) xs.length = true := anyN_iff.2 ⟨j, hj, h4⟩
    rw [h6, e]; rfl
  · have e : anyN (dupP xs) xs.length = false := anyN_false.2 fun j hj => anyN_false.1 h1 j (by omega)
    rw [h2, e]; rfl
theorem m109 : Meets Try.prog 109 S109 (R 109) (F 109) := by
  refine meets_of_vt (pre := R) (Φ := F) mixed (sgAt_all (P := Try.prog) (pre := R) (Φ := F) (l := sg109) (List.forall_mem_cons.2 ⟨Meets.at (pre := R) (Φ := F) m110, (fun _ h => nomatch h)⟩)) Try.func109 b109 n109 (loops_n 0 k109 fun k hk => by omega) e109 fun ds hf _ => ?_
  obtain ⟨x, rfl, hx⟩ := fits1 hf.flat
  obtain ⟨xs, rfl, hm, _⟩ := wf_sl hx
  simp only [vt109, VT.ok, Nd.holds, X.outs, X.ds, X.d, Op1.ev, Op2.ev, List.cons_append, List.nil_append, List.getD_cons_zero, List.getD_cons_succ, D.int_i, D.bool_b, D.lst_l, ite_b, ite_and, takeD1_0, F110, R110, F109]
  exact ⟨fun _ i _ => ⟨_, _, rfl⟩, rfl⟩
theorem m107 : Meets Try.prog 107 S107 (R 107) (F 107) := by
  refine meets_of_vt (pre := R) (Φ := F) mixed (sgAt_all (P := Try.prog) (pre := R) (Φ := F) (l := sg107) (List.forall_mem_cons.2 ⟨Meets.at (pre := R) (Φ := F) m108, List.forall_mem_cons.2 ⟨Meets.at (pre := R) (Φ := F) m109, (fun _ h => nomatch h)⟩⟩)) Try.func107 b107 n107 (loops_n 0 k107 fun k hk => by omega) e107 fun ds hf _ => ?_
  obtain ⟨x, rfl, hx⟩ := fits1 hf.flat
  obtain ⟨xs, rfl, hm, _⟩ := wf_sl hx
  simp only [vt107, VT.ok, Nd.holds, X.outs, X.ds, X.d, takeD_zero, takeD_cons, List.cons_append, List.nil_append, List.getD_cons_zero, List.getD_cons_succ, D.bool_b, D.lst_l, ite_b, ite_and, implies_true, and_true, F108, R108, F109, R109, F107, disD, ptsD, pathD, cL, path_two]
theorem cells2 {xs : List (List D)} (h : ptsy xs) (h0 : 0 < xs.length) : (xs.getD (Int.toNat 0) []).getD 0 default = .i (pX xs 0) ∧ (xs.getD (Int.toNat 0) []).getD 1 default = .i (pY xs 0) := h 0 h0
theorem loopM106_0 : LoopMeets Try.prog F (R L106_0.key) L106_0 lb106_0 := by
  refine loop_meets (pre := R) mixed (sgAt_all (P := Try.prog) (pre := R) (Φ := F) (l := sg106) (List.forall_mem_cons.2 ⟨Meets.at (pre := R) (Φ := F) m107, (fun _ h => nomatch h)⟩)) (loops_n 0 lk106_0 fun k hk => by omega) L106_0 (fun ρ => ((ρ.getD 1 default).int - (ρ.getD 2 default).int).toNat) le106_0 fun ρ _ hq => ?_
  obtain ⟨xs, a, b, c, d, j, rfl, hj, hm⟩ : prBn ρ := hq
  rw [maxLen_val] at hm
  by_cases hlt : j < xs.length
  · simp (disch := omega) only [rt106_0, VT.ok, Nd.holds, X.ds, X.d, Op1.ev, Op2.ev, List.getD_cons_zero, List.getD_cons_succ, D.int_i, D.bool_b, D.lst_l, imin, imax, Int.toNat_natCast, implies_true, true_and, ↓reduceIte, dle_t, dlt_t, w64']
    refine round_next ⟨⟨xs, _, _, _, _, j + 1, rfl, by omega, hm⟩, ?_, ?_⟩
    · show ((xs.length : Int) - ((j + 1 : Nat) : Int)).toNat < ((xs.length : Int) - (j : Int)).toNat
      omega
    · show lpBn [.l xs, .i (xs.length : Int), .i ((j + 1 : Nat) : Int), .i (min a (pX xs j)), .i (min b (pY xs j)), .i (max c (pX xs j)), .i (max d (pY xs j))] = lpBn [.l xs, .i (xs.length : Int), .i (j : Int), .i a, .i b, .i c, .i d]
      simp only [lpBn, Int.toNat_natCast, growN]
      rw [fold_next (i := j) hlt]
      rfl
  · have hj' : j = xs.length := by omega
    subst hj'
    simp (disch := omega) only [rt106_0, VT.ok, X.ds, X.d, Op2.ev, List.getD_cons_zero, List.getD_cons_succ, D.int_i, D.bool_b, Bool.false_eq_true, ↓reduceIte, dlt_f]
    refine round_exit (by omega) ?_
    show lpBn [.l xs, .i (xs.length : Int), .i (xs.length : Int), .i a, .i b, .i c, .i d] = _
    simp only [lpBn, Int.toNat_natCast, growN, fold_end]
    rfl
theorem m106 : Meets Try.prog 106 S106 (R 106) (F 106) := by
  refine meets_of_vt (pre := R) (Φ := F) mixed (sgAt_all (P := Try.prog) (pre := R) (Φ := F) (l := sg106) (List.forall_mem_cons.2 ⟨Meets.at (pre := R) (Φ := F) m107, (fun _ h => nomatch h)⟩)) Try.func106 b106 n106 (loops_n 1 k106 fun k hk => match k, hk with | 0, _ => loop_this lf106_0 loopM106_0) e106 fun ds hf _ => ?_
  obtain ⟨x, rfl, hx⟩ := fits1 hf.flat
  obtain ⟨xs, rfl, hm, hfx⟩ := wf_sl hx
  have hp := ptsy_of hfx
  cases hb : pathB xs
  · simp (disch := omega) only [vt106, VT.ok, Nd.holds, X.outs, X.ds, X.d, Op1.ev, Op2.ev, takeD_zero, takeD_cons, List.cons_append, List.nil_append, List.getD_cons_zero, List.getD_cons_succ, D.int_i, D.bool_b, D.lst_l, if_true, Bool.false_eq_true, if_false, implies_true, and_true, F107, R107, F20600, R20600, F106, pathD, cL, hb, Bool.not_false, bndD, bndQ, dQ]
  · obtain ⟨h1, h2, h3, h4⟩ := pathB_iff.1 hb
    obtain ⟨e1, e2⟩ := cells2 hp h1
    have hpre : prBn [.l xs, .i (xs.length : Int), .i 0, .i (pX xs 0), .i (pY xs 0), .i (pX xs 0), .i (pY xs 0)] := ⟨xs, _, _, _, _, 0, rfl, by omega, hm⟩
    simp (disch := omega) only [vt106, VT.ok, Nd.holds, X.outs, X.ds, X.d, Op1.ev, Op2.ev, takeD_zero, takeD_cons, List.cons_append, List.nil_append, List.getD_cons_zero, List.getD_cons_succ, D.int_i, D.bool_b, D.lst_l, Bool.false_eq_true, implies_true, true_and, F107, R107, F20600, R20600, F106, ↓reduceIte, dlt_t, pathD, cL, hb, Bool.not_true, bndD, bndQ, e1, e2, lpBn]
    refine ⟨fun _ => hpre, ?_⟩
    first | rfl | (show dQ (growN xs 1 (at0 xs)) = _; rw [growN_1 h1])
theorem byte_row' (s : ByteArray) {j : Nat} (h : j < s.size) : cI (el (s.data.toList.map fun b => [D.i (b.toNat : Int)]) j) 0 = bt s j := by
  have hd : j < s.data.size := h
  have e : s[j]? = some s.data[j] := by
    rw [getElem?_pos s j h]; rfl
  simp only [el, cI, bt, List.getD, List.getElem?_map, Array.getElem?_toList, Array.getElem?_eq_getElem hd, Option.map_some, Option.getD_some, e, List.getElem?_cons_zero]
  rfl
theorem m45 : Meets Try.prog 45 S45 (R 45) (F 45) := by
  refine meets_of_vt (pre := R) (Φ := F) mixed (sgAt_all (P := Try.prog) (pre := R) (Φ := F) (l := sg45) (List.forall_mem_cons.2 ⟨Meets.at (pre := R) (Φ := F) m62, (fun _ h => nomatch h)⟩)) Try.func45 b45 n45 (loops_n 0 k45 fun k hk => by omega) e45 fun ds hf _ => ?_
  obtain ⟨x, rfl, hx⟩ := fits1 hf.flat
  obtain ⟨s, rfl, hs⟩ := wf_str hx
  have hlen : (s.data.toList.map fun b => [D.i (b.toNat : Int)]).length = s.size := by simp
  have hany : anyN (fun j => decide (cI (el (s.data.toList.map fun b => [D.i (b.toNat : Int)]) j) 0 < 32) || decide (126 < cI (el (s.data.toList.map fun b => [D.i (b.toNat : Int)]) j) 0)) s.size = anyN (lblP s) s.size := anyN_congr fun k hk => by
    rw [byte_row' s hk]; rfl
  simp only [vt45, VT.ok, Nd.holds, X.outs, X.ds, X.d, Op1.ev, takeD_zero, takeD_cons, List.cons_append, List.nil_append, List.getD_cons_zero, List.getD_cons_succ, D.bool_b, D.lst_l, D.str_s, F62, R62, F45, cfFn, plainD, plainB, cS, cL, hlen]
  refine ⟨fun _ i _ => ⟨_, rfl⟩, ?_⟩
  rw [← hany]
  rfl
end Go.Proofs.Ythpppbfiiphgoaa.rv
namespace Go.Proofs.Ythpppbfiiphgoaa.rv
set_option maxRecDepth 10000
open Go.RV
theorem fits8 {c0 c1 c2 c3 c4 c5 c6 c7 : CT} {ds : List D} (h : FitsF [c0, c1, c2, c3, c4, c5, c6, c7] ds) : ∃ a b c d e f g i, ds = [a, b, c, d, e, f, g, i] ∧ Wf c0 a ∧ Wf c1 b ∧ Wf c2 c ∧ Wf c3 d ∧ Wf c4 e ∧ Wf c5 f ∧ Wf c6 g ∧ Wf c7 i := by
  match ds, h with
  | [a, b, c, d, e, f, g, i], ⟨h0, h1, h2, h3, h4, h5, h6, h7, _⟩ => exact ⟨a, b, c, d, e, f, g, i, rfl, h0, h1, h2, h3, h4, h5, h6, h7⟩
theorem fitsIt {s : TypeId} {ds : List D} (h : FitsF [.int .i64, .int .i64, .int .i64, .int .i64, .int .i64, .int .i64, .sl s [.int .i64, .int .i64], .str] ds) :
    ∃ (k o a b c d : Int) (l : List (List D)) (t : ByteArray), ds = [.i k, .i o, .i a, .i b, .i c, .i d, .l l, .s t] ∧ l.length ≤ maxLen ∧ t.size ≤ maxLen := by
  obtain ⟨a, b, c, d, e, f, g, i, rfl, h0, h1, h2, h3, h4, h5, h6, h7⟩ := fits8 h
  obtain ⟨_, rfl, _⟩ := wf_i64 h0
  obtain ⟨_, rfl, _⟩ := wf_i64 h1
  obtain ⟨_, rfl, _⟩ := wf_i64 h2
  obtain ⟨_, rfl, _⟩ := wf_i64 h3
  obtain ⟨_, rfl, _⟩ := wf_i64 h4
  obtain ⟨_, rfl, _⟩ := wf_i64 h5
  obtain ⟨_, rfl, hl, _⟩ := wf_sl h6
  obtain ⟨_, rfl, ht⟩ := wf_str h7
  exact ⟨_, _, _, _, _, _, _, _, rfl, hl, ht⟩
abbrev itm (k o a b c d : Int) (l : List (List D)) (t : ByteArray) : List D := [.i k, .i o, .i a, .i b, .i c, .i d, .l l, .s t]
theorem kn_itm (k o a b c d : Int) (l : List (List D)) (t : ByteArray) : knB (itm k o a b c d l t) = (decide (1 ≤ k) && decide (k ≤ 4)) := rfl
theorem used_itm (k o a b c d : Int) (l : List (List D)) (t : ByteArray) : usedB (itm k o a b c d l t) = (!(!(k == 4) && !(t == ⟨#[]⟩)) && (if k = 3 then ((a == 0) && ((b == 0) && ((c == 0) && (d == 0)))) else (l.length : Int) == 0)) := rfl
theorem shp_itm (k o a b c d : Int) (l : List (List D)) (t : ByteArray) : shpB (itm k o a b c d l t) = if k = 3 then pathB l else bxB a b c d := rfl
theorem e_itm (k o a b c d : Int) (l : List (List D)) (t : ByteArray) : itemE (itm k o a b c d l t) = if (knB (itm k o a b c d l t) && usedB (itm k o a b c d l t) && !decide (o < 0)) = true then
    (if shpB (itm k o a b c d l t) = true then (if (plainB t && !decide (32 < (t.size : Int))) = true then 0 else 7) else 3) else 1 := rfl
theorem used_text {k o a b c d : Int} {l : List (List D)} {t : ByteArray} (h : usedB (itm k o a b c d l t) = true) (h4 : k ≠ 4) : t = ⟨#[]⟩ := by
  rw [used_itm, Bool.and_eq_true] at h
  have := h.1
  rw [beq_f h4] at this
  simpa using this
theorem fn24_eq (a b c d e f g h : D) : fn24 [a, b, c, d, e, f, g, h] = [.b (decide (1 ≤ a.int) && decide (a.int ≤ 4))] := by
  simp only [fn24, vt24, VT.val, X.ds, X.d, Op2.ev, List.getD_cons_zero, D.int_i, D.bool_b, ite_b, ite_and]
theorem fn113_eq (a b c d : D) : fn113 [a, b, c, d] = [a, b, c, d, .b (bxB a.int b.int c.int d.int)] := by
  simp only [fn113, vt113, VT.val, X.outs, X.ds, X.d, takeD_zero, takeD_cons, List.cons_append, List.nil_append, List.getD_cons_zero, List.getD_cons_succ, show T113 35 = fn35 from rfl, fn35_eq]
theorem m105 : Meets Try.prog 105 S105 (R 105) (F 105) := by
  refine meets_of_vt (pre := R) (Φ := F) mixed (sgAt_all (P := Try.prog) (pre := R) (Φ := F) (l := sg105) (List.forall_mem_cons.2 ⟨Meets.at (pre := R) (Φ := F) m106, List.forall_mem_cons.2 ⟨Meets.at (pre := R) (Φ := F) m107, (fun _ h => nomatch h)⟩⟩)) Try.func105 b105 n105 (loops_n 0 k105 fun k hk => by omega) e105 fun ds hf _ => ?_
  obtain ⟨x, rfl, hx⟩ := fits1 hf.flat
  simp only [vt105, VT.ok, Nd.holds, X.outs, X.ds, X.d, takeD_zero, takeD_cons, List.cons_append, List.nil_append, List.getD_cons_zero, List.getD_cons_succ, D.bool_b, implies_true, and_true, F107, R107, F106, R106, F105, bndD, pathD, extL, dQ]
theorem m44 : Meets Try.prog 44 S44 (R 44) (F 44) := by
  refine meets_of_vt (pre := R) (Φ := F) mixed (sgAt_all (P := Try.prog) (pre := R) (Φ := F) (l := sg44) (List.forall_mem_cons.2 ⟨Meets.at (pre := R) (Φ := F) m25, (fun _ h => nomatch h)⟩)) Try.func44 b44 n44 (loops_n 0 k44 fun k hk => by omega) e44 fun ds hf _ => ?_
  obtain ⟨k, o, a, b, c, d, l, t, rfl, _, _⟩ := fitsIt hf.flat
  rw [show F 44 = usedD from rfl, show usedD [.i k, .i o, .i a, .i b, .i c, .i d, .l l, .s t] = [.b (usedB (itm k o a b c d l t))] from rfl, used_itm]
  by_cases h4 : k = 4
  · subst h4
    simp (disch := omega) only [vt44, VT.ok, Nd.holds, X.outs, X.ds, X.d, Op1.ev, Op2.ev, takeD_zero, takeD_cons, List.cons_append, List.nil_append, List.getD_cons_zero, List.getD_cons_succ, D.int_i, D.bool_b, D.lst_l, Bool.false_eq_true, implies_true, true_and, false_implies, F25, R25, ↓reduceIte, beq_t, beq_f, fn25, vt25, VT.val, D.isT, beq_self_eq_true, Bool.not_false, Bool.not_true, Bool.false_and, Bool.true_and, Nat.reduceBEq]
    exact ⟨by intros; exact ⟨_, _, rfl⟩, rfl⟩
  · cases ht : (t == ⟨#[]⟩)
    · simp (disch := omega) only [vt44, VT.ok, X.ds, X.d, Op1.ev, Op2.ev, List.getD_cons_zero, List.getD_cons_succ, D.int_i, D.bool_b, D.str_s, ↓reduceIte, beq_f, ht, Bool.not_false, Bool.not_true, Bool.false_and, Bool.and_self]
    · by_cases hk : k = 3
      · subst hk
        simp (disch := omega) only [vt44, VT.ok, Nd.holds, X.outs, X.ds, X.d, Op1.ev, Op2.ev, takeD_zero, takeD_cons, List.cons_append, List.nil_append, List.getD_cons_zero, List.getD_cons_succ, D.int_i, D.bool_b, D.str_s, ite_b, ite_and, Bool.false_eq_true, implies_true, true_and, and_true, F25, R25, ↓reduceIte, beq_f, ht, fn25, vt25, VT.val, D.isT, beq_self_eq_true, Bool.not_false, Bool.not_true, Bool.and_false, Bool.true_and]
        intros; exact ⟨_, _, rfl⟩
      · simp (disch := omega) only [vt44, VT.ok, Nd.holds, X.outs, X.ds, X.d, Op1.ev, Op2.ev, takeD_zero, takeD_cons, List.cons_append, List.nil_append, List.getD_cons_zero, List.getD_cons_succ, D.int_i, D.bool_b, D.lst_l, D.str_s, Bool.false_eq_true, implies_true, true_and, and_true, false_implies, F25, R25, ↓reduceIte, beq_t, beq_f, ht, fn25, vt25, VT.val, D.isT, beq_self_eq_true, Bool.not_false, Bool.not_true, Bool.and_false, Bool.true_and, if_neg hk, Nat.reduceBEq]
        intros; exact ⟨_, _, rfl⟩
theorem m22 : Meets Try.prog 22 S22 (R 22) (F 22) := by
  refine meets_of_vt (pre := R) (Φ := F) mixed (sgAt_all (P := Try.prog) (pre := R) (Φ := F) (l := sg22) (List.forall_mem_cons.2 ⟨Meets.at (pre := R) (Φ := F) m24, List.forall_mem_cons.2 ⟨Meets.at (pre := R) (Φ := F) m44, List.forall_mem_cons.2 ⟨Meets.at (pre := R) (Φ := F) m25, List.forall_mem_cons.2 ⟨Meets.at (pre := R) (Φ := F) m105, List.forall_mem_cons.2 ⟨Meets.at (pre := R) (Φ := F) m113, List.forall_mem_cons.2 ⟨Meets.at (pre := R) (Φ := F) m45, (fun _ h => nomatch h)⟩⟩⟩⟩⟩⟩)) Try.func22 b22 n22 (loops_n 0 k22 fun k hk => by omega) e22 fun ds hf _ => ?_
  obtain ⟨k, o, a, b, c, d, l, t, rfl, hl, ht⟩ := fitsIt hf.flat
  rw [show F 22 = itmD from rfl, show itmD [.i k, .i o, .i a, .i b, .i c, .i d, .l l, .s t] = [.i (itemE (itm k o a b c d l t))] from rfl]
  obtain ⟨u, hu⟩ : ∃ u, usedB (itm k o a b c d l t) = u := ⟨_, rfl⟩
  have hu0 : usedD [.i k, .i o, .i a, .i b, .i c, .i d, .l l, .s t] = [.b u] := by rw [← hu]; rfl
  cases h1 : (knB (itm k o a b c d l t) && usedB (itm k o a b c d l t) && !decide (o < 0))
  · have hc : ((!(decide (1 ≤ k) && decide (k ≤ 4)) || !u) || decide (o < 0)) = true := by
      rw [kn_itm k o a b c d l t, hu] at h1
      cases h2 : (decide (1 ≤ k) && decide (k ≤ 4)) <;> cases u <;> cases h4 : decide (o < 0) <;> first | rfl | (rw [h2, h4] at h1; cases h1)
    rw [e_itm, h1]
    simp only [vt22, VT.ok, Nd.holds, X.outs, X.ds, X.d, Op1.ev, Op2.ev, takeD_zero, takeD_cons, List.cons_append, List.nil_append, List.getD_cons_zero, List.getD_cons_succ, D.int_i, D.bool_b, D.str_s, ite_b, ite_or, ite_and, Bool.false_eq_true, if_false, implies_true, true_and, takeD1_0, F25, R25, F45, R45, F24, R24, F44, R44, F105, R105, F113, R113, fn24_eq, hu0]
    show if ((!(decide (1 ≤ k) && decide (k ≤ 4)) || !u) || decide (o < 0)) = true then _ else _
    rw [if_pos hc]; trivial
  · rw [e_itm, h1, if_pos rfl]
    simp only [Bool.and_eq_true, Bool.not_eq_true'] at h1
    obtain ⟨⟨h2, h3⟩, h4⟩ := h1
    have hut : u = true := by rw [← hu]; exact h3
    subst hut
    rw [kn_itm] at h2
    rw [shp_itm]
    by_cases hk : k = 3
    · have htx := used_text h3 (by omega)
      subst hk htx
      simp (disch := omega) only [vt22, VT.ok, Nd.holds, X.outs, X.ds, X.d, Op1.ev, Op2.ev, takeD_zero, takeD_cons, List.cons_append, List.nil_append, List.getD_cons_zero, List.getD_cons_succ, D.int_i, D.bool_b, ite_b, ite_and, Bool.false_eq_true, implies_true, true_and, false_implies, F25, R25, F45, R45, F24, R24, F44, R44, F105, R105, R113, ↓reduceIte, beq_f, fn24_eq, hu0, h4, fn25, vt25, VT.val, D.isT, beq_self_eq_true, Bool.not_true, Nat.reduceBEq, D.ptd, extL]
      refine ⟨by intros; exact ⟨_, _, rfl⟩, ?_⟩
      show if (!pathB l) = true then _ else _
      cases pathB l <;> rfl
    · simp (disch := omega) only [vt22, VT.ok, Nd.holds, X.outs, X.ds, X.d, Op1.ev, Op2.ev, takeD_zero, takeD_cons, List.cons_append, List.nil_append, List.getD_cons_zero, List.getD_cons_succ, D.int_i, D.bool_b, D.str_s, ite_b, ite_or, ite_and, Bool.false_eq_true, implies_true, true_and, false_implies, F25, R25, F45, R45, F24, R24, F44, R44, R105, F113, R113, ↓reduceIte, beq_f, fn24_eq, hu0, h4, fn25, vt25, VT.val, D.isT, beq_self_eq_true, Bool.not_true, Nat.reduceBEq, D.ptd, fn113_eq, if_neg hk, plainD, cS]
      show if ((!(decide (1 ≤ k) && decide (k ≤ 4)) && true) && true) = true then _ else _
      rw [h2, if_neg (by decide)]
      refine ⟨by intros; exact ⟨_, _, rfl⟩, ?_⟩
      show if (!bxB a b c d) = true then _ else _
      cases hb : bxB a b c d
      · rfl
      · by_cases h4 : k = 4
        · simp only [beq_t h4, Bool.true_and]
          cases plainB t <;> cases decide (32 < (t.size : Int)) <;> rfl
        · have htx := used_text h3 h4
          subst htx
          simp only [beq_f h4, Bool.false_and]
          rfl
end Go.Proofs.Ythpppbfiiphgoaa.rv
namespace Go.Proofs.Ythpppbfiiphgoaa.rv
set_option maxRecDepth 10000
open Go.RV
theorem boxy_of {s : TypeId} {I : List (List D)} (h : ∀ x ∈ I, FitsF [.int .i64, .int .i64, .int .i64, .int .i64, .int .i64, .int .i64, .sl s [.int .i64, .int .i64], .str] x) : boxy I 2 := fun i hi => by
  obtain ⟨k, o, a, b, c, d, l, t, e, _, _⟩ := fitsIt (h _ (getD_mem [] hi))
  simp only [cI, el]
  rw [e]
  exact ⟨rfl, rfl, rfl, rfl⟩
theorem boxy_of4 {I : List (List D)} (h : ∀ x ∈ I, FitsF [.int .i64, .int .i64, .int .i64, .int .i64] x) : boxy I 0 := fun i hi => by
  obtain ⟨x, y, z, w, e, hx, hy, hz, hw⟩ := fits4 (h _ (getD_mem [] hi))
  obtain ⟨_, rfl, _⟩ := wf_i64 hx
  obtain ⟨_, rfl, _⟩ := wf_i64 hy
  obtain ⟨_, rfl, _⟩ := wf_i64 hz
  obtain ⟨_, rfl, _⟩ := wf_i64 hw
  simp only [cI, el]
  rw [e]
  exact ⟨rfl, rfl, rfl, rfl⟩
theorem fitsS {s e : TypeId} {rest : List CT} {ds : List D} (h : FitsF (.int .i64 :: .int .i64 :: .int .i64 :: .int .i64 :: .sl e [.int .i64, .int .i64, .int .i64, .int .i64, .int .i64, .int .i64, .sl s [.int .i64, .int .i64], .str] :: rest) ds) :
    ∃ (a b c d : Int) (I : List (List D)) (ds' : List D), ds = .i a :: .i b :: .i c :: .i d :: .l I :: ds' ∧ FitsF rest ds' ∧ I.length ≤ maxLen ∧ ∀ x ∈ I, FitsF [.int .i64, .int .i64, .int .i64, .int .i64, .int .i64, .int .i64, .sl s [.int .i64, .int .i64], .str] x := by
  match ds, h with
  | x :: y :: z :: w :: l :: ds', ⟨h0, h1, h2, h3, h4, h5⟩ =>
    obtain ⟨a, rfl, _⟩ := wf_i64 h0
    obtain ⟨b, rfl, _⟩ := wf_i64 h1
    obtain ⟨c, rfl, _⟩ := wf_i64 h2
    obtain ⟨d, rfl, _⟩ := wf_i64 h3
    obtain ⟨I, rfl, hm, hI⟩ := wf_sl h4
    exact ⟨a, b, c, d, I, ds', rfl, h5, hm, hI⟩
theorem ibox_3 {x : List D} (h : cI x 0 = 3) : ibox x = if pathB (cL x 6) = true then some (bndQ (cL x 6)) else none := by rw [ibox, if_pos h]
theorem ibox_n {x : List D} (h : cI x 0 ≠ 3) : ibox x = if (knB x && bxQ (rQ x 2)) = true then some (rQ x 2) else none := by rw [ibox, if_neg h]
theorem loopM26_0 : LoopMeets Try.prog F (R L26_0.key) L26_0 lb26_0 := by
  refine loop_meets (pre := R) mixed (sgAt_all (P := Try.prog) (pre := R) (Φ := F) (l := sg26) (List.forall_mem_cons.2 ⟨Meets.at (pre := R) (Φ := F) m35, (fun _ h => nomatch h)⟩)) (loops_n 0 lk26_0 fun k hk => by omega) L26_0 (fun ρ => ((ρ.getD 2 default).int - (ρ.getD 3 default).int).toNat) le26_0 fun ρ _ hq => ?_
  obtain ⟨f, xs, a, b, c, d, j, rfl, hj, hm, hbx⟩ : prUn ρ := hq
  rw [maxLen_val] at hm
  by_cases hlt : j < xs.length
  · obtain ⟨e0, e1, e2, e3⟩ := hbx j hlt
    have hmu : ((xs.length : Int) - ((j + 1 : Nat) : Int)).toNat < ((xs.length : Int) - (j : Int)).toNat := by omega
    simp (disch := omega) only [rt26_0, VT.ok, Nd.holds, X.outs, X.ds, X.d, Op1.ev, Op2.ev, takeD_zero, takeD_cons, List.cons_append, List.nil_append, List.getD_cons_zero, List.getD_cons_succ, D.int_i, D.bool_b, D.lst_l, imin, imax, Int.toNat_natCast, implies_true, true_and, F35, R35, ↓reduceIte, dle_t, dlt_t, w64', fn35_eq, e0, e1, e2, e3]
    cases hb : bxB (cI (el xs j) 0) (cI (el xs j) (0 + 1)) (cI (el xs j) (0 + 2)) (cI (el xs j) (0 + 3))
    · simp only [Bool.not_false, if_true]
      refine round_next ⟨⟨f, xs, a, b, c, d, j + 1, rfl, by omega, hm, hbx⟩, hmu, ?_⟩
      show lpUn [.b f, .l xs, .i (xs.length : Int), .i ((j + 1 : Nat) : Int), .i a, .i b, .i c, .i d] = lpUn [.b f, .l xs, .i (xs.length : Int), .i (j : Int), .i a, .i b, .i c, .i d]
      have e : uniS xs j (!f, (a, b, c, d)) = uniS xs (j + 1) (!f, (a, b, c, d)) := by
        unfold uniS
        rw [fold_next hlt]
        have hb' : bxQ (rQ (el xs j) 0) = false := hb
        rw [hb']
        rfl
      simp only [lpUn, Int.toNat_natCast, e]
    · have hb' : bxQ (rQ (el xs j) 0) = true := hb
      simp only [Bool.not_true, Bool.false_eq_true, if_false]
      cases f
      · simp only [Bool.false_eq_true, if_false]
        refine round_next ⟨⟨false, xs, _, _, _, _, j + 1, rfl, by omega, hm, hbx⟩, hmu, ?_⟩
        have e : uniS xs j (true, (a, b, c, d)) = uniS xs (j + 1) (true, join (a, b, c, d) (rQ (el xs j) 0)) := by
          unfold uniS
          rw [fold_next hlt, hb']
          rfl
        show lpUn [.b false, .l xs, .i (xs.length : Int), .i ((j + 1 : Nat) : Int), .i (join (a, b, c, d) (rQ (el xs j) 0)).1, .i (join (a, b, c, d) (rQ (el xs j) 0)).2.1, .i (join (a, b, c, d) (rQ (el xs j) 0)).2.2.1, .i (join (a, b, c, d) (rQ (el xs j) 0)).2.2.2] = lpUn [.b false, .l xs, .i (xs.length : Int), .i (j : Int), .i a, .i b, .i c, .i d]
        simp only [lpUn, Int.toNat_natCast, Bool.not_false, e]
      · simp only [if_true]
        refine round_next ⟨⟨false, xs, _, _, _, _, j + 1, rfl, by omega, hm, hbx⟩, hmu, ?_⟩
        have e : uniS xs j (false, (a, b, c, d)) = uniS xs (j + 1) (true, rQ (el xs j) 0) := by
          unfold uniS
          rw [fold_next hlt, hb']
          rfl
        show lpUn [.b false, .l xs, .i (xs.length : Int), .i ((j + 1 : Nat) : Int), .i (rQ (el xs j) 0).1, .i (rQ (el xs j) 0).2.1, .i (rQ (el xs j) 0).2.2.1, .i (rQ (el xs j) 0).2.2.2] = lpUn [.b true, .l xs, .i (xs.length : Int), .i (j : Int), .i a, .i b, .i c, .i d]
        simp only [lpUn, Int.toNat_natCast, Bool.not_false, Bool.not_true, e]
  · have hj' : j = xs.length := by omega
    subst hj'
    simp (disch := omega) only [rt26_0, VT.ok, X.ds, X.d, Op2.ev, List.getD_cons_zero, List.getD_cons_succ, D.int_i, D.bool_b, Bool.false_eq_true, ↓reduceIte, dlt_f]
    refine round_exit (by omega) ?_
    show lpUn [.b f, .l xs, .i (xs.length : Int), .i (xs.length : Int), .i a, .i b, .i c, .i d] = _
    simp only [lpUn, Int.toNat_natCast, uniS, fold_end, Bool.not_not, dQ]
theorem m26 : Meets Try.prog 26 S26 (R 26) (F 26) := by
  refine meets_of_vt (pre := R) (Φ := F) mixed (sgAt_all (P := Try.prog) (pre := R) (Φ := F) (l := sg26) (List.forall_mem_cons.2 ⟨Meets.at (pre := R) (Φ := F) m35, (fun _ h => nomatch h)⟩)) Try.func26 b26 n26 (loops_n 1 k26 fun k hk => match k, hk with | 0, _ => loop_this lf26_0 loopM26_0) e26 fun ds hf _ => ?_
  obtain ⟨x, rfl, hx⟩ := fits1 hf.flat
  obtain ⟨xs, rfl, hm, hfx⟩ := wf_sl hx
  have hpre : prUn [.b true, .l xs, .i (xs.length : Int), .i 0, .i 0, .i 0, .i 0, .i 0] := ⟨true, xs, 0, 0, 0, 0, 0, rfl, by omega, hm, boxy_of4 hfx⟩
  simp only [vt26, VT.ok, Nd.holds, X.outs, X.ds, X.d, Op1.ev, List.cons_append, List.nil_append, List.getD_cons_zero, List.getD_cons_succ, D.bool_b, D.lst_l, F12600, R12600, F26]
  exact ⟨fun _ => hpre, rfl⟩
theorem loopM13_0 : LoopMeets Try.prog F (R L13_0.key) L13_0 lb13_0 := by
  refine loop_meets (pre := R) mixed (sgAt_all (P := Try.prog) (pre := R) (Φ := F) (l := sg13) (List.forall_mem_cons.2 ⟨Meets.at (pre := R) (Φ := F) m24, List.forall_mem_cons.2 ⟨Meets.at (pre := R) (Φ := F) m25, List.forall_mem_cons.2 ⟨Meets.at (pre := R) (Φ := F) m105, List.forall_mem_cons.2 ⟨Meets.at (pre := R) (Φ := F) m113, List.forall_mem_cons.2 ⟨Meets.at (pre := R) (Φ := F) m26, (fun _ h => nomatch h)⟩⟩⟩⟩⟩)) (loops_n 0 lk13_0 fun k hk => by omega) L13_0 (fun ρ => ((ρ.getD 1 default).int - (ρ.getD 2 default).int).toNat) le13_0 fun ρ _ hq => ?_
  obtain ⟨I, acc, j, rfl, hj, hm, hbx, hac⟩ : prBc ρ := hq
  by_cases hlt : j < I.length
  · obtain ⟨e0, e1, e2, e3⟩ := hbx j hlt
    have hmu : ((I.length : Int) - ((j + 1 : Nat) : Int)).toNat < ((I.length : Int) - (j : Int)).toNat := by omega
    have hn : ∀ acc' : List (List D), acc ++ bxRow (ibox (el I j)) = acc' → RoundOk F (R L13_0.key) (fun ρ => ((ρ.getD 1 default).int - (ρ.getD 2 default).int).toNat) L13_0 [.l I, .i (I.length : Int), .i (j : Int), .l acc] [.i (-1), .i ((j + 1 : Nat) : Int), .l acc'] := fun acc' h => by
      subst h
      refine round_next ⟨⟨I, _, j + 1, rfl, by omega, hm, hbx, ?_⟩, hmu, ?_⟩
      · rw [List.length_append]
        cases ibox (el I j) with
        | none => simp [bxRow]; omega
        | some q => simp [bxRow]; omega
      · show lpBc [.l I, .i (I.length : Int), .i ((j + 1 : Nat) : Int), .l (acc ++ bxRow (ibox (el I j)))] = lpBc [.l I, .i (I.length : Int), .i (j : Int), .l acc]
        simp only [lpBc, Int.toNat_natCast]
        rw [coll_next (i := j) hlt acc]
    have hkn : knB (el I j) = (decide (1 ≤ ((I.getD j []).getD 0 default).int) && decide (((I.getD j []).getD 0 default).int ≤ 4)) := rfl
    cases hk : knB (el I j)
    · have hib : ibox (el I j) = none := by
        have h3 : cI (el I j) 0 ≠ 3 := fun h => by
          rw [knB, h] at hk; cases hk
        rw [ibox_n h3, hk]; rfl
      rw [hkn] at hk
      simp (disch := omega) only [rt13_0, VT.ok, Nd.holds, X.outs, X.ds, X.d, Op1.ev, Op2.ev, takeD_zero, takeD_cons, List.cons_append, List.nil_append, List.getD_cons_zero, List.getD_cons_succ, D.int_i, D.bool_b, D.lst_l, Int.toNat_natCast, implies_true, true_and, F24, R24, ↓reduceIte, dle_t, dlt_t, w64', fn24_eq, hk, Bool.not_false]
      exact hn acc (by rw [hib]; simp [bxRow])
    · rw [hkn] at hk
      by_cases h3 : cI (el I j) 0 = 3
      · have h3' : ((I.getD j []).getD 0 default).int = 3 := h3
        have hib := ibox_3 h3
        have hp0 : pathB (cL [(I.getD j []).getD 6 default] 0) = pathB (cL (el I j) 6) := rfl
        simp (disch := omega) only [rt13_0, VT.ok, Nd.holds, X.outs, X.ds, X.d, Op1.ev, Op2.ev, takeD_zero, takeD_cons, List.cons_append, List.nil_append, List.getD_cons_zero, List.getD_cons_succ, D.int_i, D.bool_b, D.lst_l, Int.toNat_natCast, Bool.false_eq_true, implies_true, true_and, false_implies, F25, R25, F24, R24, F105, R105, R113, ↓reduceIte, dle_t, dlt_t, beq_t, w64', fn24_eq, Bool.not_true, fn25, vt25, VT.val, D.isT, beq_self_eq_true, Bool.true_and, Nat.reduceBEq, D.ptd, extL, List.length_append, List.length_cons, List.length_nil]
        refine ⟨by intros; exact ⟨_, _, rfl⟩, ?_⟩
        show if pathB (cL (el I j) 6) = true then _ else _
        split
        · rename_i hp
          exact hn _ (by rw [hib, if_pos hp]; rfl)
        · rename_i hp
          exact hn _ (by rw [hib, if_neg hp]; exact List.append_nil _)
      · have h3' : ((I.getD j []).getD 0 default).int ≠ 3 := h3
        have hib := ibox_n h3
        rw [hkn, hk, Bool.true_and] at hib
        have e0' : (I.getD j []).getD 2 default = .i (rQ (el I j) 2).1 := e0
        have e1' : (I.getD j []).getD 3 default = .i (rQ (el I j) 2).2.1 := e1
        have e2' : (I.getD j []).getD 4 default = .i (rQ (el I j) 2).2.2.1 := e2
        have e3' : (I.getD j []).getD 5 default = .i (rQ (el I j) 2).2.2.2 := e3
        simp (disch := omega) only [rt13_0, VT.ok, Nd.holds, X.outs, X.ds, X.d, Op1.ev, Op2.ev, takeD_zero, takeD_cons, List.cons_append, List.nil_append, List.getD_cons_zero, List.getD_cons_succ, D.int_i, D.bool_b, D.lst_l, Int.toNat_natCast, Bool.false_eq_true, implies_true, true_and, false_implies, F25, R25, F24, R24, R105, F113, R113, ↓reduceIte, dle_t, dlt_t, beq_f, w64', fn24_eq, hk, Bool.not_true, fn25, vt25, VT.val, D.isT, beq_self_eq_true, Nat.reduceBEq, D.ptd, fn113_eq, List.length_append, List.length_cons, List.length_nil, e0', e1', e2', e3']
        refine ⟨by intros; exact ⟨_, _, rfl⟩, ?_⟩
        show if bxQ (rQ (el I j) 2) = true then _ else _
        split
        · rename_i hp
          exact hn _ (by rw [hib, if_pos hp]; rfl)
        · rename_i hp
          exact hn _ (by rw [hib, if_neg hp]; exact List.append_nil _)
  · have hj' : j = I.length := by omega
    subst hj'
    simp (disch := omega) only [rt13_0, VT.ok, X.ds, X.d, Op2.ev, List.getD_cons_zero, List.getD_cons_succ, D.int_i, D.bool_b, Bool.false_eq_true, ↓reduceIte, dlt_f]
    refine round_exit (by omega) ?_
    show lpBc [.l I, .i (I.length : Int), .i (I.length : Int), .l acc] = _
    simp only [lpBc, Int.toNat_natCast, coll_end]
theorem m13 : Meets Try.prog 13 S13 (R 13) (F 13) := by
  refine meets_of_vt (pre := R) (Φ := F) mixed (sgAt_all (P := Try.prog) (pre := R) (Φ := F) (l := sg13) (List.forall_mem_cons.2 ⟨Meets.at (pre := R) (Φ := F) m24, List.forall_mem_cons.2 ⟨Meets.at (pre := R) (Φ := F) m25, List.forall_mem_cons.2 ⟨Meets.at (pre := R) (Φ := F) m105, List.forall_mem_cons.2 ⟨Meets.at (pre := R) (Φ := F) m113, List.forall_mem_cons.2 ⟨Meets.at (pre := R) (Φ := F) m26, (fun _ h => nomatch h)⟩⟩⟩⟩⟩)) Try.func13 b13 n13 (loops_n 1 k13 fun k hk => match k, hk with | 0, _ => loop_this lf13_0 loopM13_0) e13 fun ds hf hq => ?_
  obtain ⟨x, rfl, hx⟩ := fits1 hf.flat
  obtain ⟨I, rfl, hm, hfx⟩ := wf_sl hx
  have hm : I.length ≤ 1000000 := hq
  have hpre : prBc [.l I, .i (I.length : Int), .i 0, .l []] := ⟨I, [], 0, rfl, by omega, hm, boxy_of hfx, by simp⟩
  simp only [vt13, VT.ok, Nd.holds, X.outs, X.ds, X.d, Op1.ev, List.cons_append, List.nil_append, List.getD_cons_zero, List.getD_cons_succ, D.bool_b, D.lst_l, implies_true, true_and, F11300, R11300, F26, R26, F13]
  refine ⟨fun _ => hpre, ?_⟩
  have e : lpBc [.l I, .i (I.length : Int), .i 0, .l []] = [.i 0, .i (I.length : Int), .l (collN (fun j => bxRow (ibox (el I j))) I.length 0)] := rfl
  rw [e]
  show dQ (uniS (collN (fun j => bxRow (ibox (el I j))) I.length 0) 0 (false, z4)).2 = dQ (bndS I)
  rw [uni_coll]
  rfl
theorem loopM11_0 : LoopMeets Try.prog F (R L11_0.key) L11_0 lb11_0 := by
  refine loop_meets (pre := R) mixed (sgAt_all (P := Try.prog) (pre := R) (Φ := F) (l := sg11) (List.forall_mem_cons.2 ⟨Meets.at (pre := R) (Φ := F) m22, List.forall_mem_cons.2 ⟨Meets.at (pre := R) (Φ := F) m13, (fun _ h => nomatch h)⟩⟩)) (loops_n 0 lk11_0 fun k hk => by omega) L11_0 (fun ρ => ((ρ.getD 2 default).int - (ρ.getD 3 default).int).toNat) le11_0 fun ρ _ hq => ?_
  obtain ⟨v, I, j, rfl, hj, hm⟩ : prVc ρ := hq
  rw [maxLen_val] at hm
  by_cases hlt : j < I.length
  · have hN : itemE (el I j) = 0 → RoundOk F (R L11_0.key) (fun ρ => ((ρ.getD 2 default).int - (ρ.getD 3 default).int).toNat) L11_0 [v, .l I, .i (I.length : Int), .i (j : Int)] [.i (-1), v, .i ((j + 1 : Nat) : Int)] := fun h0 => by
      refine round_next ⟨⟨v, I, j + 1, rfl, by omega, hm⟩, ?_, ?_⟩
      · show ((I.length : Int) - ((j + 1 : Nat) : Int)).toNat < ((I.length : Int) - (j : Int)).toNat
        omega
      · show lpVc [v, .l I, .i (I.length : Int), .i ((j + 1 : Nat) : Int)] = lpVc [v, .l I, .i (I.length : Int), .i (j : Int)]
        simp only [lpVc, errLp, Int.toNat_natCast]
        exact scan_next hlt (by simp only [er, h0]; rfl)
    have hX : ∀ z : Int, itemE (el I j) = z → z ≠ 0 → RoundOk F (R L11_0.key) (fun ρ => ((ρ.getD 2 default).int - (ρ.getD 3 default).int).toNat) L11_0 [v, .l I, .i (I.length : Int), .i (j : Int)] [.i 0, .i z, .i (j : Int)] := fun z h0 hz => by
      refine round_exit (by omega) ?_
      show lpVc [v, .l I, .i (I.length : Int), .i (j : Int)] = _
      simp only [lpVc, errLp, Int.toNat_natCast]
      rw [← h0]
      exact scan_hit hlt (by simp only [er, h0]; simpa using hz)
    have e8 : itmD [(I.getD j []).getD 0 default, (I.getD j []).getD 1 default, (I.getD j []).getD 2 default, (I.getD j []).getD 3 default, (I.getD j []).getD 4 default, (I.getD j []).getD 5 default, (I.getD j []).getD 6 default, (I.getD j []).getD 7 default] = [.i (itemE (el I j))] := rfl
    simp (disch := omega) only [rt11_0, VT.ok, Nd.holds, X.outs, X.ds, X.d, Op1.ev, Op2.ev, takeD_zero, takeD_cons, List.cons_append, List.nil_append, List.getD_cons_zero, List.getD_cons_succ, D.int_i, D.bool_b, D.lst_l, Int.toNat_natCast, implies_true, true_and, F22, R22, ↓reduceIte, dle_t, dlt_t, w64', e8]
    by_cases h0 : itemE (el I j) = 0
    · rw [beq_t h0, Bool.not_true, if_neg (by decide)]; exact hN h0
    · rw [beq_f h0, Bool.not_false, if_pos rfl]; exact hX _ rfl h0
  · have hj' : j = I.length := by omega
    subst hj'
    simp (disch := omega) only [rt11_0, VT.ok, X.ds, X.d, Op2.ev, List.getD_cons_zero, List.getD_cons_succ, D.int_i, D.bool_b, Bool.false_eq_true, ↓reduceIte, dlt_f]
    refine round_exit (by omega) ?_
    show lpVc [v, .l I, .i (I.length : Int), .i (I.length : Int)] = _
    simp only [lpVc, errLp, Int.toNat_natCast]
    exact scan_end
theorem m11 : Meets Try.prog 11 S11 (R 11) (F 11) := by
  refine meets_of_vt (pre := R) (Φ := F) mixed (sgAt_all (P := Try.prog) (pre := R) (Φ := F) (l := sg11) (List.forall_mem_cons.2 ⟨Meets.at (pre := R) (Φ := F) m22, List.forall_mem_cons.2 ⟨Meets.at (pre := R) (Φ := F) m13, (fun _ h => nomatch h)⟩⟩)) Try.func11 b11 n11 (loops_n 1 k11 fun k hk => match k, hk with | 0, _ => loop_this lf11_0 loopM11_0) e11 fun ds hf _ => ?_
  obtain ⟨a, b, c, d, I, ds', rfl, h5, hm, hfx⟩ := fitsS hf.flat
  obtain rfl := fits0 h5
  have hval : valD [.i a, .i b, .i c, .i d, .l I] = [.i (validS I (a, b, c, d))] := rfl
  rw [show F 11 = valD from rfl, hval]
  by_cases h1 : 2048 < (I.length : Int)
  · simp (disch := omega) only [vt11, VT.ok, X.ds, X.d, Op1.ev, Op2.ev, List.getD_cons_zero, List.getD_cons_succ, D.int_i, D.bool_b, D.lst_l, ↓reduceIte, dlt_t, validS, if_pos h1]
  · have hpre : prVc [.i 0, .l I, .i (I.length : Int), .i 0] := ⟨_, I, 0, rfl, by omega, hm⟩
    have hbp : bdPre [.l I] := by show I.length ≤ 1000000; omega
    have hlp : lpVc [.i 0, .l I, .i (I.length : Int), .i 0] = errLp (fun j => itemE (el I j)) (.i 0) I.length 0 := rfl
    rw [validS, if_neg h1]
    rcases errLp_two (fun j => itemE (el I j)) (.i 0) I.length with ⟨k1, k2⟩ | ⟨k1, k2, k3⟩
    · rw [if_neg k1]
      simp (disch := omega) only [vt11, VT.ok, Nd.holds, X.outs, X.ds, X.d, Op1.ev, Op2.ev, takeD_zero, takeD_cons, List.cons_append, List.nil_append, List.getD_cons_zero, List.getD_cons_succ, D.int_i, D.bool_b, D.lst_l, Bool.false_eq_true, and_true, F11100, R11100, ↓reduceIte, dlt_f, beq_t, hlp, k2]
      exact fun _ => hpre
    · rw [if_pos k1]
      have hs : ((a == (bndS I).1) && ((b == (bndS I).2.1) && ((c == (bndS I).2.2.1) && (d == (bndS I).2.2.2)))) = sameQ (bndS I) (a, b, c, d) := sameQ_symm (a, b, c, d) (bndS I)
      simp (disch := omega) only [vt11, VT.ok, Nd.holds, X.outs, X.ds, X.d, Op1.ev, Op2.ev, takeD_zero, takeD_cons, List.cons_append, List.nil_append, List.getD_cons_zero, List.getD_cons_succ, D.int_i, D.bool_b, D.lst_l, ite_b, ite_and, Bool.false_eq_true, F13, R13, F11100, R11100, ↓reduceIte, dlt_f, beq_f, hlp, k3, bdsD, dQ, cL, hs]
      refine ⟨fun _ => hpre, fun _ => hbp, ?_⟩
      cases sameQ (bndS I) (a, b, c, d) <;> rfl
end Go.Proofs.Ythpppbfiiphgoaa.rv
namespace Go.Proofs.Ythpppbfiiphgoaa.rv
set_option maxRecDepth 10000
open Go.RV
theorem kw6 (a b c d e f : Bool) : (if a = true then [D.b true] else if b = true then [D.b true] else if c = true then [D.b true] else if d = true then [D.b true] else if e = true then [D.b true] else if f = true then [D.b true] else [D.b false]) = [D.b (a || (b || (c || (d || (e || f)))))] := by
  cases a <;> cases b <;> cases c <;> cases d <;> cases e <;> cases f <;> rfl
theorem fn77_eq (ds : List D) : fn77 ds = letD ds := by
  show vt77.val T77 ds = _
  show [if (if (if decide (97 ≤ cI ds 0) = true then D.b (decide (cI ds 0 ≤ 122)) else D.b false).bool = true then D.b true else (if decide (65 ≤ cI ds 0) = true then D.b (decide (cI ds 0 ≤ 90)) else D.b false)).bool = true then D.b true else D.b (cI ds 0 == 95)] = _
  simp only [ite_b, D.bool_b, ite_and, ite_or]
  rfl
theorem fn78_eq (ds : List D) : fn78 ds = digD ds := by
  show vt78.val T78 ds = _
  show [if decide (48 ≤ cI ds 0) = true then D.b (decide (cI ds 0 ≤ 57)) else D.b false] = _
  simp only [ite_b, ite_and]
  rfl
theorem fn65_eq (ds : List D) : fn65 ds = kwD ds := by
  exact kw6 _ _ _ _ _ _
theorem loopM64_0 : LoopMeets Try.prog F (R L64_0.key) L64_0 lb64_0 := by
  refine loop_meets (pre := R) mixed (sgAt_all (P := Try.prog) (pre := R) (Φ := F) (l := sg64) (List.forall_mem_cons.2 ⟨Meets.at (pre := R) (Φ := F) m77, List.forall_mem_cons.2 ⟨Meets.at (pre := R) (Φ := F) m78, (fun _ h => nomatch h)⟩⟩)) (loops_n 0 lk64_0 fun k hk => by omega) L64_0 (fun ρ => (((ρ.getD 0 default).str.size : Int) - (ρ.getD 1 default).int).toNat) le64_0 fun ρ _ hq => ?_
  obtain ⟨s, j, rfl, hj, hm⟩ : prWord ρ := hq
  rw [maxLen_val] at hm
  by_cases hlt : j < s.size
  · simp (disch := omega) only [rt64_0, VT.ok, Nd.holds, X.outs, X.ds, X.d, Op1.ev, Op2.ev, takeD_zero, takeD_cons, List.cons_append, List.nil_append, List.getD_cons_zero, List.getD_cons_succ, D.int_i, D.bool_b, D.str_s, ite_b, ite_or, ite_and, Int.toNat_natCast, implies_true, true_and, F77, R77, F78, R78, ↓reduceIte, dle_t, dlt_t, w64', fn77_eq, fn78_eq, letD, digD, cI, Int.toNat_natCast]
    have hN : wordP s j = false → RoundOk F (R L64_0.key) (fun ρ => (((ρ.getD 0 default).str.size : Int) - (ρ.getD 1 default).int).toNat) L64_0 [.s s, .i (j : Int)] [.i (-1), .i ((j + 1 : Nat) : Int)] := fun hb => by
      refine round_next ⟨⟨s, j + 1, rfl, by omega, hm⟩, ?_, ?_⟩
      · show ((s.size : Int) - ((j + 1 : Nat) : Int)).toNat < ((s.size : Int) - (j : Int)).toNat
        omega
      · show lpWord [.s s, .i ((j + 1 : Nat) : Int)] = lpWord [.s s, .i (j : Int)]
        simp only [lpWord, Int.toNat_natCast]
        exact scan_next hlt hb
    have hX : wordP s j = true → RoundOk F (R L64_0.key) (fun ρ => (((ρ.getD 0 default).str.size : Int) - (ρ.getD 1 default).int).toNat) L64_0 [.s s, .i (j : Int)] [.i 0, .i (j : Int)] := fun hb => by
      refine round_exit (by omega) ?_
      show lpWord [.s s, .i (j : Int)] = _
      simp only [lpWord, Int.toNat_natCast]
      exact scan_hit hlt hb
    have e : wordP s j = !(letB (bt s j) || (decide (0 < (j : Int)) && digB (bt s j))) := rfl
    cases hb : letB (bt s j)
    · cases hb2 : (decide (0 < (j : Int)) && digB (bt s j))
      · rw [hb, hb2] at e
        show if (letB (bt s j) || (decide (0 < (j : Int)) && digB (bt s j))) = true then _ else _
        rw [hb, hb2]
        exact hX e
      · rw [hb, hb2] at e
        show if (letB (bt s j) || (decide (0 < (j : Int)) && digB (bt s j))) = true then _ else _
        rw [hb, hb2]
        exact hN e
    · rw [hb] at e
      show if (letB (bt s j) || (decide (0 < (j : Int)) && digB (bt s j))) = true then _ else _
      rw [hb]
      exact hN e
  · have hj' : j = s.size := by omega
    subst hj'
    simp (disch := omega) only [rt64_0, VT.ok, Nd.holds, X.outs, X.ds, X.d, Op1.ev, Op2.ev, List.cons_append, List.nil_append, List.getD_cons_zero, List.getD_cons_succ, D.int_i, D.bool_b, D.str_s, Int.toNat_natCast, Bool.false_eq_true, implies_true, true_and, false_implies, ↓reduceIte, dle_t, dlt_f]
    refine round_exit (by omega) ?_
    show lpWord [.s s, .i (s.size : Int)] = _
    simp only [lpWord, Int.toNat_natCast]
    exact scan_end
theorem m64 : Meets Try.prog 64 S64 (R 64) (F 64) := by
  refine meets_of_vt (pre := R) (Φ := F) mixed (sgAt_all (P := Try.prog) (pre := R) (Φ := F) (l := sg64) (List.forall_mem_cons.2 ⟨Meets.at (pre := R) (Φ := F) m77, List.forall_mem_cons.2 ⟨Meets.at (pre := R) (Φ := F) m78, (fun _ h => nomatch h)⟩⟩)) Try.func64 b64 n64 (loops_n 1 k64 fun k hk => match k, hk with | 0, _ => loop_this lf64_0 loopM64_0) e64 fun ds hf _ => ?_
  obtain ⟨x, rfl, hx⟩ := fits1 hf.flat
  obtain ⟨s, rfl, hs⟩ := wf_str hx
  have hpre : prWord [.s s, .i 0] := ⟨s, 0, rfl, by omega, hs⟩
  simp only [vt64, VT.ok, Nd.holds, X.outs, X.ds, X.d, List.cons_append, List.nil_append, List.getD_cons_zero, List.getD_cons_succ, D.bool_b, F16400, R16400, F64]
  refine ⟨fun _ => hpre, ?_⟩
  simp only [lpWord, Int.toNat_zero, Nat.sub_zero, scan_fs, wordD, cS, List.getD_cons_zero, D.str_s]
  by_cases h : fs (wordP s) s.size < s.size
  · rw [if_pos h]; rfl
  · have := fs_le (wordP s) s.size
    rw [if_neg h, show fs (wordP s) s.size = s.size by omega]; rfl
theorem fn74_eq (ds : List D) : fn74 ds = letD ds := by
  show vt74.val T74 ds = _
  show [if (if (if decide (97 ≤ cI ds 0) = true then D.b (decide (cI ds 0 ≤ 122)) else D.b false).bool = true then D.b true else (if decide (65 ≤ cI ds 0) = true then D.b (decide (cI ds 0 ≤ 90)) else D.b false)).bool = true then D.b true else D.b (cI ds 0 == 95)] = _
  simp only [ite_b, D.bool_b, ite_and, ite_or]
  rfl
theorem fn75_eq (ds : List D) : fn75 ds = digD ds := by
  show vt75.val T75 ds = _
  show [if decide (48 ≤ cI ds 0) = true then D.b (decide (cI ds 0 ≤ 57)) else D.b false] = _
  simp only [ite_b, ite_and]
  rfl
theorem fn57_eq (ds : List D) : fn57 ds = kwD ds := by
  exact kw6 _ _ _ _ _ _
theorem loopM56_0 : LoopMeets Try.prog F (R L56_0.key) L56_0 lb56_0 := by
  refine loop_meets (pre := R) mixed (sgAt_all (P := Try.prog) (pre := R) (Φ := F) (l := sg56) (List.forall_mem_cons.2 ⟨Meets.at (pre := R) (Φ := F) m74, List.forall_mem_cons.2 ⟨Meets.at (pre := R) (Φ := F) m75, (fun _ h => nomatch h)⟩⟩)) (loops_n 0 lk56_0 fun k hk => by omega) L56_0 (fun ρ => (((ρ.getD 0 default).str.size : Int) - (ρ.getD 1 default).int).toNat) le56_0 fun ρ _ hq => ?_
  obtain ⟨s, j, rfl, hj, hm⟩ : prWord ρ := hq
  rw [maxLen_val] at hm
  by_cases hlt : j < s.size
  · simp (disch := omega) only [rt56_0, VT.ok, Nd.holds, X.outs, X.ds, X.d, Op1.ev, Op2.ev, takeD_zero, takeD_cons, List.cons_append, List.nil_append, List.getD_cons_zero, List.getD_cons_succ, D.int_i, D.bool_b, D.str_s, ite_b, ite_or, ite_and, Int.toNat_natCast, implies_true, true_and, F74, R74, F75, R75, ↓reduceIte, dle_t, dlt_t, w64', fn74_eq, fn75_eq, letD, digD, cI, Int.toNat_natCast]
    have hN : wordP s j = false → RoundOk F (R L56_0.key) (fun ρ => (((ρ.getD 0 default).str.size : Int) - (ρ.getD 1 default).int).toNat) L56_0 [.s s, .i (j : Int)] [.i (-1), .i ((j + 1 : Nat) : Int)] := fun hb => by
      refine round_next ⟨⟨s, j + 1, rfl, by omega, hm⟩, ?_, ?_⟩
      · show ((s.size : Int) - ((j + 1 : Nat) : Int)).toNat < ((s.size : Int) - (j : Int)).toNat
        omega
      · show lpWord [.s s, .i ((j + 1 : Nat) : Int)] = lpWord [.s s, .i (j : Int)]
        simp only [lpWord, Int.toNat_natCast]
        exact scan_next hlt hb
    have hX : wordP s j = true → RoundOk F (R L56_0.key) (fun ρ => (((ρ.getD 0 default).str.size : Int) - (ρ.getD 1 default).int).toNat) L56_0 [.s s, .i (j : Int)] [.i 0, .i (j : Int)] := fun hb => by
      refine round_exit (by omega) ?_
      show lpWord [.s s, .i (j : Int)] = _
      simp only [lpWord, Int.toNat_natCast]
      exact scan_hit hlt hb
    have e : wordP s j = !(letB (bt s j) || (decide (0 < (j : Int)) && digB (bt s j))) := rfl
    cases hb : letB (bt s j)
    · cases hb2 : (decide (0 < (j : Int)) && digB (bt s j))
      · rw [hb, hb2] at e
        show if (letB (bt s j) || (decide (0 < (j : Int)) && digB (bt s j))) = true then _ else _
        rw [hb, hb2]
        exact hX e
      · rw [hb, hb2] at e
        show if (letB (bt s j) || (decide (0 < (j : Int)) && digB (bt s j))) = true then _ else _
        rw [hb, hb2]
        exact hN e
    · rw [hb] at e
      show if (letB (bt s j) || (decide (0 < (j : Int)) && digB (bt s j))) = true then _ else _
      rw [hb]
      exact hN e
  · have hj' : j = s.size := by omega
    subst hj'
    simp (disch := omega) only [rt56_0, VT.ok, Nd.holds, X.outs, X.ds, X.d, Op1.ev, Op2.ev, List.cons_append, List.nil_append, List.getD_cons_zero, List.getD_cons_succ, D.int_i, D.bool_b, D.str_s, Int.toNat_natCast, Bool.false_eq_true, implies_true, true_and, false_implies, ↓reduceIte, dle_t, dlt_f]
    refine round_exit (by omega) ?_
    show lpWord [.s s, .i (s.size : Int)] = _
    simp only [lpWord, Int.toNat_natCast]
    exact scan_end
theorem m56 : Meets Try.prog 56 S56 (R 56) (F 56) := by
  refine meets_of_vt (pre := R) (Φ := F) mixed (sgAt_all (P := Try.prog) (pre := R) (Φ := F) (l := sg56) (List.forall_mem_cons.2 ⟨Meets.at (pre := R) (Φ := F) m74, List.forall_mem_cons.2 ⟨Meets.at (pre := R) (Φ := F) m75, (fun _ h => nomatch h)⟩⟩)) Try.func56 b56 n56 (loops_n 1 k56 fun k hk => match k, hk with | 0, _ => loop_this lf56_0 loopM56_0) e56 fun ds hf _ => ?_
  obtain ⟨x, rfl, hx⟩ := fits1 hf.flat
  obtain ⟨s, rfl, hs⟩ := wf_str hx
  have hpre : prWord [.s s, .i 0] := ⟨s, 0, rfl, by omega, hs⟩
  simp only [vt56, VT.ok, Nd.holds, X.outs, X.ds, X.d, List.cons_append, List.nil_append, List.getD_cons_zero, List.getD_cons_succ, D.bool_b, F15600, R15600, F56]
  refine ⟨fun _ => hpre, ?_⟩
  simp only [lpWord, Int.toNat_zero, Nat.sub_zero, scan_fs, wordD, cS, List.getD_cons_zero, D.str_s]
  by_cases h : fs (wordP s) s.size < s.size
  · rw [if_pos h]; rfl
  · have := fs_le (wordP s) s.size
    rw [if_neg h, show fs (wordP s) s.size = s.size by omega]; rfl
theorem m47 : Meets Try.prog 47 S47 (R 47) (F 47) := by
  refine meets_of_vt (pre := R) (Φ := F) mixed (sgAt_all (P := Try.prog) (pre := R) (Φ := F) (l := sg47) (List.forall_mem_cons.2 ⟨Meets.at (pre := R) (Φ := F) m64, List.forall_mem_cons.2 ⟨Meets.at (pre := R) (Φ := F) m65, (fun _ h => nomatch h)⟩⟩)) Try.func47 b47 n47 (loops_n 0 k47 fun k hk => by omega) e47 fun ds hf _ => ?_
  obtain ⟨x, rfl, hx⟩ := fits1 hf.flat
  obtain ⟨s, rfl, hs⟩ := wf_str hx
  simp only [vt47, VT.ok, Nd.holds, X.outs, X.ds, X.d, Op1.ev, Op2.ev, takeD_zero, takeD_cons, List.cons_append, List.nil_append, List.getD_cons_zero, List.getD_cons_succ, D.int_i, D.bool_b, D.str_s, ite_b, ite_and, implies_true, and_true, F64, R64, F65, R65, F47, wordD, cS, fn65_eq, kwD, nameD, isName]
theorem m38 : Meets Try.prog 38 S38 (R 38) (F 38) := by
  refine meets_of_vt (pre := R) (Φ := F) mixed (sgAt_all (P := Try.prog) (pre := R) (Φ := F) (l := sg38) (List.forall_mem_cons.2 ⟨Meets.at (pre := R) (Φ := F) m56, List.forall_mem_cons.2 ⟨Meets.at (pre := R) (Φ := F) m57, (fun _ h => nomatch h)⟩⟩)) Try.func38 b38 n38 (loops_n 0 k38 fun k hk => by omega) e38 fun ds hf _ => ?_
  obtain ⟨x, rfl, hx⟩ := fits1 hf.flat
  obtain ⟨s, rfl, hs⟩ := wf_str hx
  simp only [vt38, VT.ok, Nd.holds, X.outs, X.ds, X.d, Op1.ev, Op2.ev, takeD_zero, takeD_cons, List.cons_append, List.nil_append, List.getD_cons_zero, List.getD_cons_succ, D.int_i, D.bool_b, D.str_s, ite_b, ite_and, implies_true, true_and, F56, R56, F57, R57, F38, wordD, cS, fn57_eq, kwD, nameD, isName]
  rw [Bool.and_right_comm (!(s == _))]
theorem byte_row (s : ByteArray) {j : Nat} (h : j < s.size) : cI (el (s.data.toList.map fun b => [D.i (b.toNat : Int)]) j) 0 = bt s j := by
  have hd : j < s.data.size := h
  have e : s[j]? = some s.data[j] := by
    rw [getElem?_pos s j h]; rfl
  simp only [el, cI, bt, List.getD, List.getElem?_map, Array.getElem?_toList, Array.getElem?_eq_getElem hd, Option.map_some, Option.getD_some, e, List.getElem?_cons_zero]
  rfl
theorem loopM67_0 : LoopMeets Try.prog F (R L67_0.key) L67_0 lb67_0 := by
  refine loop_meets (pre := R) mixed (sgAt_all (P := Try.prog) (pre := R) (Φ := F) (l := sg67) ((fun _ h => nomatch h))) (loops_n 0 lk67_0 fun k hk => by omega) L67_0 (fun ρ => ((ρ.getD 2 default).int - (ρ.getD 3 default).int).toNat) le67_0 fun ρ _ hq => ?_
  obtain ⟨v, bs, j, rfl, hj, hm⟩ : prLab ρ := hq
  rw [maxLen_val] at hm
  by_cases hlt : j < bs.length
  · simp (disch := omega) only [rt67_0, VT.ok, Nd.holds, X.ds, X.d, Op1.ev, Op2.ev, List.getD_cons_zero, List.getD_cons_succ, D.int_i, D.bool_b, D.lst_l, ite_b, ite_or, Int.toNat_natCast, implies_true, true_and, ↓reduceIte, dle_t, dlt_t, w64']
    show if (decide (cI (el bs j) 0 < 32) || decide (126 < cI (el bs j) 0)) = true then _ else _
    cases hb : (decide (cI (el bs j) 0 < 32) || decide (126 < cI (el bs j) 0))
    · simp only [Bool.false_eq_true, if_false]
      refine round_next ⟨⟨v, bs, j + 1, rfl, by omega, hm⟩, ?_, ?_⟩
      · show ((bs.length : Int) - ((j + 1 : Nat) : Int)).toNat < ((bs.length : Int) - (j : Int)).toNat
        omega
      · show lpLab [v, .l bs, .i (bs.length : Int), .i ((j + 1 : Nat) : Int)] = lpLab [v, .l bs, .i (bs.length : Int), .i (j : Int)]
        simp only [lpLab, Int.toNat_natCast]
        exact scan_next hlt hb
    · simp only [if_true]
      refine round_exit (by omega) ?_
      show lpLab [v, .l bs, .i (bs.length : Int), .i (j : Int)] = _
      simp only [lpLab, Int.toNat_natCast]
      exact scan_hit hlt hb
  · have hj' : j = bs.length := by omega
    subst hj'
    simp (disch := omega) only [rt67_0, VT.ok, X.ds, X.d, Op2.ev, List.getD_cons_zero, List.getD_cons_succ, D.int_i, D.bool_b, Bool.false_eq_true, ↓reduceIte, dlt_f]
    refine round_exit (by omega) ?_
    show lpLab [v, .l bs, .i (bs.length : Int), .i (bs.length : Int)] = _
    simp only [lpLab, Int.toNat_natCast]
    exact scan_end
theorem m67 : Meets Try.prog 67 S67 (R 67) (F 67) := by
  refine meets_of_vt (pre := R) (Φ := F) mixed (sgAt_all (P := Try.prog) (pre := R) (Φ := F) (l := sg67) ((fun _ h => nomatch h))) Try.func67 b67 n67 (loops_n 1 k67 fun k hk => match k, hk with | 0, _ => loop_this lf67_0 loopM67_0) e67 fun ds hf _ => ?_
  obtain ⟨x, rfl, hx⟩ := fits1 hf.flat
  obtain ⟨s, rfl, hs⟩ := wf_str hx
  have hlen : (s.data.toList.map fun b => [D.i (b.toNat : Int)]).length = s.size := by simp
  have hpre : prLab [.i 0, .l (s.data.toList.map fun b => [D.i (b.toNat : Int)]), .i (s.size : Int), .i 0] := ⟨.i 0, _, 0, by rw [hlen]; rfl, by omega, by rw [hlen]; exact hs⟩
  have hany : anyN (fun j => decide (cI (el (s.data.toList.map fun b => [D.i (b.toNat : Int)]) j) 0 < 32) || decide (126 < cI (el (s.data.toList.map fun b => [D.i (b.toNat : Int)]) j) 0)) s.size = anyN (lblP s) s.size := anyN_congr fun k hk => by
    rw [byte_row s hk]; rfl
  by_cases h : 32 < (s.size : Int)
  · simp (disch := omega) only [vt67, VT.ok, X.ds, X.d, Op1.ev, Op2.ev, List.getD_cons_zero, D.int_i, D.bool_b, D.str_s, F67, ↓reduceIte, dlt_t, labelD, labelE, cS, if_pos h]
  · simp (disch := omega) only [vt67, VT.ok, Nd.holds, X.outs, X.ds, X.d, Op1.ev, Op2.ev, List.cons_append, List.nil_append, List.getD_cons_zero, List.getD_cons_succ, D.int_i, D.bool_b, D.lst_l, D.str_s, Bool.false_eq_true, F16700, R16700, F67, ↓reduceIte, dlt_f, labelD, labelE, cS, hlen, if_neg h]
    refine ⟨fun _ => hpre, ?_⟩
    simp only [lpLab, hlen, Int.toNat_zero, Nat.sub_zero]
    rcases scan_two (p := fun j => decide (cI (el (s.data.toList.map fun b => [D.i (b.toNat : Int)]) j) 0 < 32) || decide (126 < cI (el (s.data.toList.map fun b => [D.i (b.toNat : Int)]) j) 0)) s.size with ⟨h1, j, _, _, _, h⟩ | ⟨h1, h⟩
    · rw [hany] at h1
      simp only [h, plainB, h1]; rfl
    · rw [hany] at h1
      simp only [h, plainB, h1]; rfl
theorem loopM59_0 : LoopMeets Try.prog F (R L59_0.key) L59_0 lb59_0 := by
  refine loop_meets (pre := R) mixed (sgAt_all (P := Try.prog) (pre := R) (Φ := F) (l := sg59) ((fun _ h => nomatch h))) (loops_n 0 lk59_0 fun k hk => by omega) L59_0 (fun ρ => (((ρ.getD 0 default).str.size : Int) - (ρ.getD 2 default).int).toNat) le59_0 fun ρ _ hq => ?_
  obtain ⟨s, v, j, rfl, hj, hm⟩ : prPlain ρ := hq
  rw [maxLen_val] at hm
  by_cases hlt : j < s.size
  · simp (disch := omega) only [rt59_0, VT.ok, Nd.holds, X.ds, X.d, Op1.ev, Op2.ev, List.getD_cons_zero, List.getD_cons_succ, D.int_i, D.bool_b, D.str_s, ite_b, ite_or, Int.toNat_natCast, implies_true, true_and, ↓reduceIte, dle_t, dlt_t, w64']
    show if lblP s j = true then _ else _
    cases hb : lblP s j
    · simp only [Bool.false_eq_true, if_false]
      refine round_next ⟨⟨s, v, j + 1, rfl, by omega, hm⟩, ?_, ?_⟩
      · show ((s.size : Int) - ((j + 1 : Nat) : Int)).toNat < ((s.size : Int) - (j : Int)).toNat
        omega
      · show lpPlain [.s s, v, .i ((j + 1 : Nat) : Int)] = lpPlain [.s s, v, .i (j : Int)]
        simp only [lpPlain, Int.toNat_natCast]
        exact scan_next hlt hb
    · simp only [if_true]
      refine round_exit (by omega) ?_
      show lpPlain [.s s, v, .i (j : Int)] = _
      simp only [lpPlain, Int.toNat_natCast]
      exact scan_hit hlt hb
  · have hj' : j = s.size := by omega
    subst hj'
    simp (disch := omega) only [rt59_0, VT.ok, X.ds, X.d, Op1.ev, Op2.ev, List.getD_cons_zero, List.getD_cons_succ, D.int_i, D.bool_b, D.str_s, Bool.false_eq_true, ↓reduceIte, dlt_f]
    refine round_exit (by omega) ?_
    show lpPlain [.s s, v, .i (s.size : Int)] = _
    simp only [lpPlain, Int.toNat_natCast]
    exact scan_end
theorem m59 : Meets Try.prog 59 S59 (R 59) (F 59) := by
  refine meets_of_vt (pre := R) (Φ := F) mixed (sgAt_all (P := Try.prog) (pre := R) (Φ := F) (l := sg59) ((fun _ h => nomatch h))) Try.func59 b59 n59 (loops_n 1 k59 fun k hk => match k, hk with | 0, _ => loop_this lf59_0 loopM59_0) e59 fun ds hf _ => ?_
  obtain ⟨x, rfl, hx⟩ := fits1 hf.flat
  obtain ⟨s, rfl, hs⟩ := wf_str hx
  have hpre : prPlain [.s s, .b false, .i 0] := ⟨s, _, 0, rfl, by omega, hs⟩
  simp (disch := omega) only [vt59, VT.ok, Nd.holds, X.outs, X.ds, X.d, Op2.ev, List.cons_append, List.nil_append, List.getD_cons_zero, List.getD_cons_succ, D.int_i, D.bool_b, D.str_s, F15900, R15900, F59, plainD, cS]
  refine ⟨fun _ => hpre, ?_⟩
  simp only [lpPlain, Int.toNat_zero, Nat.sub_zero]
  rcases scan_two (p := lblP s) s.size with ⟨h1, j, _, _, _, h⟩ | ⟨h1, h⟩
  · simp only [h, plainB, h1]; rfl
  · simp only [h, plainB, h1]; rfl
theorem fn68_eq (ds : List D) : fn68 ds = sizedD ds := by
  show [if decide (1 ≤ cI ds 0) = true then D.b (decide (cI ds 0 ≤ 1048576)) else D.b false] = _
  simp only [ite_b, ite_and]
  rfl
end Go.Proofs.Ythpppbfiiphgoaa.rv
namespace Go.Proofs.Ythpppbfiiphgoaa.rv
set_option maxRecDepth 10000
open Go.RV
theorem fn80_eq (ds cap : List D) (h : ds.length = 6) (h' : cap.length = 1) : fn80 (ds ++ [.p cap]) = dyNm (.c 80 [.pt [.str]] [.p cap] :: ds) := by
  match ds, h, cap, h' with
  | [a0, a1, a2, a3, a4, a5], _, [b0], _ => rfl
theorem m20059 : Meets Try.prog 20059 S20059 (R 20059) (F 20059) := by
  refine meets_dyn (by decide) rfl fun d ds hf hp => ?_
  obtain ⟨cap, bs, e, hc, ha⟩ : dpNm 80 [.str] 1 6 (d :: ds) := hp
  cases e
  exact ⟨80, [.pt [.str]], [.p cap], S80, _, fn80, rfl, by decide, m80, rfl, rfl, trivial, fn80_eq _ cap ha hc⟩
theorem fn82_eq (ds cap : List D) (h : ds.length = 2) (h' : cap.length = 2) : fn82 (ds ++ [.p cap]) = dyNm (.c 82 [.pt [.str, .int .i64]] [.p cap] :: ds) := by
  match ds, h, cap, h' with
  | [a0, a1], _, [b0, b1], _ => rfl
theorem m20104 : Meets Try.prog 20104 S20104 (R 20104) (F 20104) := by
  refine meets_dyn (by decide) rfl fun d ds hf hp => ?_
  obtain ⟨cap, bs, e, hc, ha⟩ : dpNm 82 [.str, .int .i64] 2 2 (d :: ds) := hp
  cases e
  exact ⟨82, [.pt [.str, .int .i64]], [.p cap], S82, _, fn82, rfl, by decide, m82, rfl, rfl, trivial, fn82_eq _ cap ha hc⟩
theorem fn71_eq (ds cap : List D) (h : ds.length = 2) (h' : cap.length = 2) : fn71 (ds ++ [.p cap]) = dyNm (.c 71 [.pt [.str, .int .i64]] [.p cap] :: ds) := by
  match ds, h, cap, h' with
  | [a0, a1], _, [b0, b1], _ => rfl
theorem m20053 : Meets Try.prog 20053 S20053 (R 20053) (F 20053) := by
  refine meets_dyn (by decide) rfl fun d ds hf hp => ?_
  obtain ⟨cap, bs, e, hc, ha⟩ : dpNm 71 [.str, .int .i64] 2 2 (d :: ds) := hp
  cases e
  exact ⟨71, [.pt [.str, .int .i64]], [.p cap], S71, _, fn71, rfl, by decide, m71, rfl, rfl, trivial, fn71_eq _ cap ha hc⟩
theorem loopM79_0 : LoopMeets Try.prog F (R L79_0.key) L79_0 lb79_0 := by
  refine loop_meets (pre := R) mixed (sgAt_all (P := Try.prog) (pre := R) (Φ := F) (l := sg79) (List.forall_mem_cons.2 ⟨Meets.at (pre := R) (Φ := F) m20059, (fun _ h => nomatch h)⟩)) (loops_n 0 lk79_0 fun k hk => by omega) L79_0 (fun ρ => ((ρ.getD 3 default).int - (ρ.getD 4 default).int).toNat) le79_0 fun ρ _ hq => ?_
  obtain ⟨xs, c, v, j, rfl, hj, hm, hp⟩ : ixPr (dpNm 80 [.str] 1 6) 6 ρ := hq
  rw [maxLen_val] at hm
  by_cases hlt : j < xs.length
  · simp (disch := omega) only [rt79_0, VT.ok, Nd.holds, X.outs, X.ds, X.d, Op1.ev, Op2.ev, List.cons_append, List.nil_append, List.getD_cons_zero, List.getD_cons_succ, D.int_i, D.bool_b, D.lst_l, Int.toNat_natCast, implies_true, true_and, takeD1_0, F20059, R20059, ↓reduceIte, dle_t, dlt_t, w64']
    refine ⟨fun _ => hp j hlt, ?_⟩
    show if ((dyNm (c :: cellsN 6 (el xs j))).getD 0 default).bool = true then _ else _
    cases hb : ((dyNm (c :: cellsN 6 (el xs j))).getD 0 default).bool
    · simp only [Bool.false_eq_true, if_false]
      refine round_next ⟨⟨xs, c, v, j + 1, rfl, by omega, hm, hp⟩, ?_, ?_⟩
      · show ((xs.length : Int) - ((j + 1 : Nat) : Int)).toNat < ((xs.length : Int) - (j : Int)).toNat
        omega
      · show ixLp dyNm 6 [.l xs, c, v, .i (xs.length : Int), .i ((j + 1 : Nat) : Int)] = ixLp dyNm 6 [.l xs, c, v, .i (xs.length : Int), .i (j : Int)]
        simp only [ixLp, Int.toNat_natCast]
        exact scan_next hlt hb
    · simp only [if_true]
      refine round_exit (by omega) ?_
      show ixLp dyNm 6 [.l xs, c, v, .i (xs.length : Int), .i (j : Int)] = _
      simp only [ixLp, Int.toNat_natCast]
      exact scan_hit hlt hb
  · have hj' : j = xs.length := by omega
    subst hj'
    simp (disch := omega) only [rt79_0, VT.ok, X.ds, X.d, Op2.ev, List.getD_cons_zero, List.getD_cons_succ, D.int_i, D.bool_b, Bool.false_eq_true, ↓reduceIte, dlt_f]
    refine round_exit (by omega) ?_
    show ixLp dyNm 6 [.l xs, c, v, .i (xs.length : Int), .i (xs.length : Int)] = _
    simp only [ixLp, Int.toNat_natCast]
    exact scan_end
theorem m79 : Meets Try.prog 79 S79 (R 79) (F 79) := by
  refine meets_of_vt (pre := R) (Φ := F) mixed (sgAt_all (P := Try.prog) (pre := R) (Φ := F) (l := sg79) (List.forall_mem_cons.2 ⟨Meets.at (pre := R) (Φ := F) m20059, (fun _ h => nomatch h)⟩)) Try.func79 b79 n79 (loops_n 1 k79 fun k hk => match k, hk with | 0, _ => loop_this lf79_0 loopM79_0) e79 fun ds hf hq => ?_
  obtain ⟨x, c, rfl, hx, _⟩ := fits2 hf.flat
  obtain ⟨xs, rfl, hm, _⟩ := wf_sl hx
  have hq : ∀ i, i < xs.length → (dpNm 80 [.str] 1 6) (c :: cellsN 6 (el xs i)) := hq
  have hpre : ixPr (dpNm 80 [.str] 1 6) 6 [.l xs, c, .i 0, .i (xs.length : Int), .i 0] := ⟨xs, c, .i 0, 0, rfl, by omega, hm, hq⟩
  simp only [vt79, VT.ok, Nd.holds, X.outs, X.ds, X.d, Op1.ev, Op2.ev, List.cons_append, List.nil_append, List.getD_cons_zero, List.getD_cons_succ, D.int_i, D.bool_b, D.lst_l, F17900, R17900, F79]
  refine ⟨fun _ => hpre, ?_⟩
  simp only [ixLp, ixFn, Int.toNat_zero, Nat.sub_zero, scan_fs, ixI, cL, List.getD_cons_zero, List.getD_cons_succ, D.lst_l]
  split <;> rfl
theorem loopM87_0 : LoopMeets Try.prog F (R L87_0.key) L87_0 lb87_0 := by
  refine loop_meets (pre := R) mixed (sgAt_all (P := Try.prog) (pre := R) (Φ := F) (l := sg87) (List.forall_mem_cons.2 ⟨Meets.at (pre := R) (Φ := F) m20104, (fun _ h => nomatch h)⟩)) (loops_n 0 lk87_0 fun k hk => by omega) L87_0 (fun ρ => ((ρ.getD 3 default).int - (ρ.getD 4 default).int).toNat) le87_0 fun ρ _ hq => ?_
  obtain ⟨xs, c, v, j, rfl, hj, hm, hp⟩ : ixPr (dpNm 82 [.str, .int .i64] 2 2) 2 ρ := hq
  rw [maxLen_val] at hm
  by_cases hlt : j < xs.length
  · simp (disch := omega) only [rt87_0, VT.ok, Nd.holds, X.outs, X.ds, X.d, Op1.ev, Op2.ev, List.cons_append, List.nil_append, List.getD_cons_zero, List.getD_cons_succ, D.int_i, D.bool_b, D.lst_l, Int.toNat_natCast, implies_true, true_and, takeD1_0, F20104, R20104, ↓reduceIte, dle_t, dlt_t, w64']
    refine ⟨fun _ => hp j hlt, ?_⟩
    show if ((dyNm (c :: cellsN 2 (el xs j))).getD 0 default).bool = true then _ else _
    cases hb : ((dyNm (c :: cellsN 2 (el xs j))).getD 0 default).bool
    · simp only [Bool.false_eq_true, if_false]
      refine round_next ⟨⟨xs, c, v, j + 1, rfl, by omega, hm, hp⟩, ?_, ?_⟩
      · show ((xs.length : Int) - ((j + 1 : Nat) : Int)).toNat < ((xs.length : Int) - (j : Int)).toNat
        omega
      · show ixLp dyNm 2 [.l xs, c, v, .i (xs.length : Int), .i ((j + 1 : Nat) : Int)] = ixLp dyNm 2 [.l xs, c, v, .i (xs.length : Int), .i (j : Int)]
        simp only [ixLp, Int.toNat_natCast]
        exact scan_next hlt hb
    · simp only [if_true]
      refine round_exit (by omega) ?_
      show ixLp dyNm 2 [.l xs, c, v, .i (xs.length : Int), .i (j : Int)] = _
      simp only [ixLp, Int.toNat_natCast]
      exact scan_hit hlt hb
  · have hj' : j = xs.length := by omega
    subst hj'
    simp (disch := omega) only [rt87_0, VT.ok, X.ds, X.d, Op2.ev, List.getD_cons_zero, List.getD_cons_succ, D.int_i, D.bool_b, Bool.false_eq_true, ↓reduceIte, dlt_f]
    refine round_exit (by omega) ?_
    show ixLp dyNm 2 [.l xs, c, v, .i (xs.length : Int), .i (xs.length : Int)] = _
    simp only [ixLp, Int.toNat_natCast]
    exact scan_end
theorem m87 : Meets Try.prog 87 S87 (R 87) (F 87) := by
  refine meets_of_vt (pre := R) (Φ := F) mixed (sgAt_all (P := Try.prog) (pre := R) (Φ := F) (l := sg87) (List.forall_mem_cons.2 ⟨Meets.at (pre := R) (Φ := F) m20104, (fun _ h => nomatch h)⟩)) Try.func87 b87 n87 (loops_n 1 k87 fun k hk => match k, hk with | 0, _ => loop_this lf87_0 loopM87_0) e87 fun ds hf hq => ?_
  obtain ⟨x, c, rfl, hx, _⟩ := fits2 hf.flat
  obtain ⟨xs, rfl, hm, _⟩ := wf_sl hx
  have hq : ∀ i, i < xs.length → (dpNm 82 [.str, .int .i64] 2 2) (c :: cellsN 2 (el xs i)) := hq
  have hpre : ixPr (dpNm 82 [.str, .int .i64] 2 2) 2 [.l xs, c, .i 0, .i (xs.length : Int), .i 0] := ⟨xs, c, .i 0, 0, rfl, by omega, hm, hq⟩
  simp only [vt87, VT.ok, Nd.holds, X.outs, X.ds, X.d, Op1.ev, Op2.ev, List.cons_append, List.nil_append, List.getD_cons_zero, List.getD_cons_succ, D.int_i, D.bool_b, D.lst_l, F18700, R18700, F87]
  refine ⟨fun _ => hpre, ?_⟩
  simp only [ixLp, ixFn, Int.toNat_zero, Nat.sub_zero, scan_fs, ixI, cL, List.getD_cons_zero, List.getD_cons_succ, D.lst_l]
  split <;> rfl
theorem loopM83_0 : LoopMeets Try.prog F (R L83_0.key) L83_0 lb83_0 := by
  refine loop_meets (pre := R) mixed (sgAt_all (P := Try.prog) (pre := R) (Φ := F) (l := sg83) (List.forall_mem_cons.2 ⟨Meets.at (pre := R) (Φ := F) m20053, (fun _ h => nomatch h)⟩)) (loops_n 0 lk83_0 fun k hk => by omega) L83_0 (fun ρ => ((ρ.getD 3 default).int - (ρ.getD 4 default).int).toNat) le83_0 fun ρ _ hq => ?_
  obtain ⟨xs, c, v, j, rfl, hj, hm, hp⟩ : ixPr (dpNm 71 [.str, .int .i64] 2 2) 2 ρ := hq
  rw [maxLen_val] at hm
  by_cases hlt : j < xs.length
  · simp (disch := omega) only [rt83_0, VT.ok, Nd.holds, X.outs, X.ds, X.d, Op1.ev, Op2.ev, List.cons_append, List.nil_append, List.getD_cons_zero, List.getD_cons_succ, D.int_i, D.bool_b, D.lst_l, Int.toNat_natCast, implies_true, true_and, takeD1_0, F20053, R20053, ↓reduceIte, dle_t, dlt_t, w64']
    refine ⟨fun _ => hp j hlt, ?_⟩
    show if ((dyNm (c :: cellsN 2 (el xs j))).getD 0 default).bool = true then _ else _
    cases hb : ((dyNm (c :: cellsN 2 (el xs j))).getD 0 default).bool
    · simp only [Bool.false_eq_true, if_false]
      refine round_next ⟨⟨xs, c, v, j + 1, rfl, by omega, hm, hp⟩, ?_, ?_⟩
      · show ((xs.length : Int) - ((j + 1 : Nat) : Int)).toNat < ((xs.length : Int) - (j : Int)).toNat
        omega
      · show ixLp dyNm 2 [.l xs, c, v, .i (xs.length : Int), .i ((j + 1 : Nat) : Int)] = ixLp dyNm 2 [.l xs, c, v, .i (xs.length : Int), .i (j : Int)]
        simp only [ixLp, Int.toNat_natCast]
        exact scan_next hlt hb
    · simp only [if_true]
      refine round_exit (by omega) ?_
      show ixLp dyNm 2 [.l xs, c, v, .i (xs.length : Int), .i (j : Int)] = _
      simp only [ixLp, Int.toNat_natCast]
      exact scan_hit hlt hb
  · have hj' : j = xs.length := by omega
    subst hj'
    simp (disch := omega) only [rt83_0, VT.ok, X.ds, X.d, Op2.ev, List.getD_cons_zero, List.getD_cons_succ, D.int_i, D.bool_b, Bool.false_eq_true, ↓reduceIte, dlt_f]
    refine round_exit (by omega) ?_
    show ixLp dyNm 2 [.l xs, c, v, .i (xs.length : Int), .i (xs.length : Int)] = _
    simp only [ixLp, Int.toNat_natCast]
    exact scan_end
theorem m83 : Meets Try.prog 83 S83 (R 83) (F 83) := by
  refine meets_of_vt (pre := R) (Φ := F) mixed (sgAt_all (P := Try.prog) (pre := R) (Φ := F) (l := sg83) (List.forall_mem_cons.2 ⟨Meets.at (pre := R) (Φ := F) m20053, (fun _ h => nomatch h)⟩)) Try.func83 b83 n83 (loops_n 1 k83 fun k hk => match k, hk with | 0, _ => loop_this lf83_0 loopM83_0) e83 fun ds hf hq => ?_
  obtain ⟨x, c, rfl, hx, _⟩ := fits2 hf.flat
  obtain ⟨xs, rfl, hm, _⟩ := wf_sl hx
  have hq : ∀ i, i < xs.length → (dpNm 71 [.str, .int .i64] 2 2) (c :: cellsN 2 (el xs i)) := hq
  have hpre : ixPr (dpNm 71 [.str, .int .i64] 2 2) 2 [.l xs, c, .i 0, .i (xs.length : Int), .i 0] := ⟨xs, c, .i 0, 0, rfl, by omega, hm, hq⟩
  simp only [vt83, VT.ok, Nd.holds, X.outs, X.ds, X.d, Op1.ev, Op2.ev, List.cons_append, List.nil_append, List.getD_cons_zero, List.getD_cons_succ, D.int_i, D.bool_b, D.lst_l, F18300, R18300, F83]
  refine ⟨fun _ => hpre, ?_⟩
  simp only [ixLp, ixFn, Int.toNat_zero, Nat.sub_zero, scan_fs, ixI, cL, List.getD_cons_zero, List.getD_cons_succ, D.lst_l]
  split <;> rfl
theorem m81 : Meets Try.prog 81 S81 (R 81) (F 81) := by
  refine meets_of_vt (pre := R) (Φ := F) mixed (sgAt_all (P := Try.prog) (pre := R) (Φ := F) (l := sg81) (List.forall_mem_cons.2 ⟨Meets.at (pre := R) (Φ := F) m87, (fun _ h => nomatch h)⟩)) Try.func81 b81 n81 (loops_n 0 k81 fun k hk => by omega) e81 fun ds hf hq => ?_
  obtain ⟨x, c, rfl, hx, _⟩ := fits2 hf.flat
  simp only [vt81, VT.ok, Nd.holds, X.outs, X.ds, X.d, Op2.ev, takeD_zero, takeD_cons, List.cons_append, List.nil_append, List.getD_cons_zero, List.getD_cons_succ, D.int_i, D.bool_b, and_true, F87, R87, F81, ixFn, cfFn, ixI_any]
  exact fun _ => hq
theorem m70 : Meets Try.prog 70 S70 (R 70) (F 70) := by
  refine meets_of_vt (pre := R) (Φ := F) mixed (sgAt_all (P := Try.prog) (pre := R) (Φ := F) (l := sg70) (List.forall_mem_cons.2 ⟨Meets.at (pre := R) (Φ := F) m83, (fun _ h => nomatch h)⟩)) Try.func70 b70 n70 (loops_n 0 k70 fun k hk => by omega) e70 fun ds hf hq => ?_
  obtain ⟨x, c, rfl, hx, _⟩ := fits2 hf.flat
  simp only [vt70, VT.ok, Nd.holds, X.outs, X.ds, X.d, Op2.ev, takeD_zero, takeD_cons, List.cons_append, List.nil_append, List.getD_cons_zero, List.getD_cons_succ, D.int_i, D.bool_b, and_true, F83, R83, F70, ixFn, cfFn, ixI_any]
  exact fun _ => hq
end Go.Proofs.Ythpppbfiiphgoaa.rv
namespace Go.Proofs.Ythpppbfiiphgoaa.rv
set_option maxRecDepth 10000
open Go.RV
theorem m66 : Meets Try.prog 66 S66 (R 66) (F 66) := by
  refine meets_of_vt (pre := R) (Φ := F) mixed (sgAt_all (P := Try.prog) (pre := R) (Φ := F) (l := sg66) (List.forall_mem_cons.2 ⟨Meets.at (pre := R) (Φ := F) m79, (fun _ h => nomatch h)⟩)) Try.func66 b66 n66 (loops_n 0 k66 fun k hk => by omega) e66 fun ds hf _ => ?_
  obtain ⟨g, ds', rfl, h5, _⟩ := fitsG hf.flat
  obtain ⟨x, rfl, hx⟩ := fits1 h5
  obtain ⟨nm, rfl, _⟩ := wf_str hx
  simp only [vt66, VT.ok, Nd.holds, X.outs, X.ds, X.d, List.cons_append, List.nil_append, List.getD_cons_zero, List.getD_cons_succ, D.bool_b, takeD1_0, F79, R79, F66]
  exact ⟨fun _ i _ => ⟨[.s nm], cellsN 6 (el g.N i), rfl, rfl, cellsN_length 6 _⟩, rfl⟩
theorem loopM58_0 : LoopMeets Try.prog F (R L58_0.key) L58_0 lb58_0 := by
  refine loop_meets (pre := R) mixed (sgAt_all (P := Try.prog) (pre := R) (Φ := F) (l := sg58) ((fun _ h => nomatch h))) (loops_n 0 lk58_0 fun k hk => by omega) L58_0 (fun ρ => (((ρ.getD 5 default).lst.length : Int) - (ρ.getD 2 default).int).toNat) le58_0 fun ρ _ hq => ?_
  obtain ⟨nm, v, g, j, rfl, hj, hm⟩ : prFind ρ := hq
  rw [maxLen_val] at hm
  by_cases hlt : j < g.N.length
  · simp (disch := omega) only [rt58_0, VT.ok, Nd.holds, X.ds, X.d, Op1.ev, Op2.ev, List.getD_cons_zero, List.getD_cons_succ, D.int_i, D.bool_b, D.lst_l, D.str_s, Int.toNat_natCast, implies_true, true_and, ↓reduceIte, dle_t, dlt_t, w64']
    show if nmP g.N nm j = true then _ else _
    cases hb : nmP g.N nm j
    · simp only [Bool.false_eq_true, if_false]
      refine round_next ⟨⟨nm, v, g, j + 1, rfl, by omega, hm⟩, ?_, ?_⟩
      · show ((g.N.length : Int) - ((j + 1 : Nat) : Int)).toNat < ((g.N.length : Int) - (j : Int)).toNat
        omega
      · show lpFind [.s nm, v, .i ((j + 1 : Nat) : Int), .s g.nm, .b g.dr, .l g.N, .l g.E, .l g.C] = lpFind [.s nm, v, .i (j : Int), .s g.nm, .b g.dr, .l g.N, .l g.E, .l g.C]
        simp only [lpFind, Int.toNat_natCast]
        exact scan_next hlt hb
    · simp only [if_true]
      refine round_exit (by omega) ?_
      show lpFind [.s nm, v, .i (j : Int), .s g.nm, .b g.dr, .l g.N, .l g.E, .l g.C] = _
      simp only [lpFind, Int.toNat_natCast]
      exact scan_hit hlt hb
  · have hj' : j = g.N.length := by omega
    subst hj'
    simp (disch := omega) only [rt58_0, VT.ok, X.ds, X.d, Op1.ev, Op2.ev, List.getD_cons_zero, List.getD_cons_succ, D.int_i, D.bool_b, D.lst_l, Bool.false_eq_true, ↓reduceIte, dlt_f]
    refine round_exit (by omega) ?_
    show lpFind [.s nm, v, .i (g.N.length : Int), .s g.nm, .b g.dr, .l g.N, .l g.E, .l g.C] = _
    simp only [lpFind, Int.toNat_natCast]
    exact scan_end
theorem m58 : Meets Try.prog 58 S58 (R 58) (F 58) := by
  refine meets_of_vt (pre := R) (Φ := F) mixed (sgAt_all (P := Try.prog) (pre := R) (Φ := F) (l := sg58) ((fun _ h => nomatch h))) Try.func58 b58 n58 (loops_n 1 k58 fun k hk => match k, hk with | 0, _ => loop_this lf58_0 loopM58_0) e58 fun ds hf _ => ?_
  obtain ⟨g, ds', rfl, h5, _, ⟨hm, _⟩, _⟩ := fitsG hf.flat
  obtain ⟨x, rfl, hx⟩ := fits1 h5
  obtain ⟨nm, rfl, _⟩ := wf_str hx
  have hpre : prFind [.s nm, .i 0, .i 0, .s g.nm, .b g.dr, .l g.N, .l g.E, .l g.C] := ⟨nm, _, g, 0, rfl, by omega, hm⟩
  simp only [vt58, VT.ok, Nd.holds, X.outs, X.ds, X.d, Op2.ev, List.cons_append, List.nil_append, List.getD_cons_zero, List.getD_cons_succ, D.int_i, D.bool_b, F15800, R15800, F58]
  refine ⟨fun _ => hpre, ?_⟩
  simp only [lpFind, findD, find, Int.toNat_zero, Nat.sub_zero, scan_fs, ixI, cL, cS, List.getD_cons_zero, List.getD_cons_succ, D.lst_l, D.str_s]
  split <;> rfl
theorem find_le {N : List (List D)} {i : Nat} (h : i < N.length) : 0 ≤ find N (cS (el N i) 0) ∧ find N (cS (el N i) 0) ≤ i := by
  have h1 : fs (nmP N (cS (el N i) 0)) N.length ≤ i := by
    rcases Nat.lt_or_ge i (fs (nmP N (cS (el N i) 0)) N.length) with h2 | h2
    · have := fs_min h2
      simp at this
    · exact h2
  unfold find ixI
  rw [if_pos (by omega)]
  omega
theorem el_take {xs : List (List D)} {i j : Nat} (h : i < j) : el (xs.take j) i = el xs i := by
  simp only [el, List.getD, List.getElem?_take, if_pos h]
theorem any_take {xs : List (List D)} {nm : ByteArray} {j : Nat} (h : j ≤ xs.length) : anyN (nmP (xs.take j) nm) (xs.take j).length = anyN (nmP xs nm) j := by
  rw [List.length_take, Nat.min_eq_left h]
  exact anyN_congr fun k hk => by simp only [nmP, el_take hk]
theorem loopM69_0 : LoopMeets Try.prog F (R L69_0.key) L69_0 lb69_0 := by
  refine loop_meets (pre := R) mixed (sgAt_all (P := Try.prog) (pre := R) (Φ := F) (l := sg69) (List.forall_mem_cons.2 ⟨Meets.at (pre := R) (Φ := F) m47, List.forall_mem_cons.2 ⟨Meets.at (pre := R) (Φ := F) m81, (fun _ h => nomatch h)⟩⟩)) (loops_n 0 lk69_0 fun k hk => by omega) L69_0 (fun ρ => ((ρ.getD 3 default).int - (ρ.getD 4 default).int).toNat) le69_0 fun ρ _ hq => ?_
  obtain ⟨xs, v, j, rfl, hj, hm⟩ : prPorts ρ := hq
  rw [maxLen_val] at hm
  by_cases hlt : j < xs.length
  · have hN : portE xs j = 0 → RoundOk F (R L69_0.key) (fun ρ => ((ρ.getD 3 default).int - (ρ.getD 4 default).int).toNat) L69_0 [.l xs, v, .l xs, .i (xs.length : Int), .i (j : Int)] [.i (-1), v, .i ((j + 1 : Nat) : Int)] := fun h0 => by
      refine round_next ⟨⟨xs, v, j + 1, rfl, by omega, hm⟩, ?_, ?_⟩
      · show ((xs.length : Int) - ((j + 1 : Nat) : Int)).toNat < ((xs.length : Int) - (j : Int)).toNat
        omega
      · show lpPorts [.l xs, v, .l xs, .i (xs.length : Int), .i ((j + 1 : Nat) : Int)] = lpPorts [.l xs, v, .l xs, .i (xs.length : Int), .i (j : Int)]
        simp only [lpPorts, errLp, Int.toNat_natCast]
        exact scan_next hlt (by simp only [er, h0]; rfl)
    have hX : ∀ z : Int, portE xs j = z → z ≠ 0 → RoundOk F (R L69_0.key) (fun ρ => ((ρ.getD 3 default).int - (ρ.getD 4 default).int).toNat) L69_0 [.l xs, v, .l xs, .i (xs.length : Int), .i (j : Int)] [.i 0, .i z, .i (j : Int)] := fun z h0 hz => by
      refine round_exit (by omega) ?_
      show lpPorts [.l xs, v, .l xs, .i (xs.length : Int), .i (j : Int)] = _
      simp only [lpPorts, errLp, Int.toNat_natCast]
      rw [← h0]
      exact scan_hit hlt (by simp only [er, h0]; simpa using hz)
    simp (disch := omega) only [rt69_0, VT.ok, Nd.holds, X.outs, X.ds, X.d, Op1.ev, Op2.ev, takeD_zero, takeD_cons, List.cons_append, List.nil_append, List.getD_cons_zero, List.getD_cons_succ, D.int_i, D.bool_b, D.lst_l, ite_b, ite_or, Int.toNat_natCast, implies_true, true_and, takeD1_0, F47, R47, F81, R81, ↓reduceIte, dle_t, dlt_t, w64', nameD, cS]
    cases h1 : isName (cS (el xs j) 0)
    · simp only [Bool.not_false, if_true]
      exact hX 5 (by simp only [portE, h1, Bool.false_eq_true, if_false]) (by omega)
    · simp only [Bool.not_true, Bool.false_eq_true, if_false]
      refine ⟨fun _ i _ => ⟨_, cellsN 2 _, rfl, rfl, cellsN_length 2 _⟩, ?_⟩
      show if anyN (nmP (xs.take j) (cS (el xs j) 0)) (xs.take j).length = true then _ else _
      rw [any_take hj]
      cases h2 : anyN (nmP xs (cS (el xs j) 0)) j
      · simp only [Bool.false_eq_true, if_false]
        by_cases h3 : cI (el xs j) 1 < 0 ∨ 3 < cI (el xs j) 1
        · rw [if_pos (by exact dor_t h3)]
          exact hX 7 (by simp only [portE, h1, h2, if_true, Bool.false_eq_true, if_false, if_pos h3]) (by omega)
        · rw [if_neg (by exact dor_f h3)]
          exact hN (by simp only [portE, h1, h2, if_true, Bool.false_eq_true, if_false, if_neg h3])
      · simp only [if_true]
        exact hX 6 (by simp only [portE, h1, h2, if_true]) (by omega)
  · have hj' : j = xs.length := by omega
    subst hj'
    simp (disch := omega) only [rt69_0, VT.ok, X.ds, X.d, Op2.ev, List.getD_cons_zero, List.getD_cons_succ, D.int_i, D.bool_b, Bool.false_eq_true, ↓reduceIte, dlt_f]
    refine round_exit (by omega) ?_
    show lpPorts [.l xs, v, .l xs, .i (xs.length : Int), .i (xs.length : Int)] = _
    simp only [lpPorts, errLp, Int.toNat_natCast]
    exact scan_end
theorem m69 : Meets Try.prog 69 S69 (R 69) (F 69) := by
  refine meets_of_vt (pre := R) (Φ := F) mixed (sgAt_all (P := Try.prog) (pre := R) (Φ := F) (l := sg69) (List.forall_mem_cons.2 ⟨Meets.at (pre := R) (Φ := F) m47, List.forall_mem_cons.2 ⟨Meets.at (pre := R) (Φ := F) m81, (fun _ h => nomatch h)⟩⟩)) Try.func69 b69 n69 (loops_n 1 k69 fun k hk => match k, hk with | 0, _ => loop_this lf69_0 loopM69_0) e69 fun ds hf _ => ?_
  obtain ⟨x, rfl, hx⟩ := fits1 hf.flat
  obtain ⟨xs, rfl, hm, _⟩ := wf_sl hx
  have hpre : prPorts [.l xs, .i 0, .l xs, .i (xs.length : Int), .i 0] := ⟨xs, _, 0, rfl, by omega, hm⟩
  by_cases h : 8 < (xs.length : Int)
  · simp (disch := omega) only [vt69, VT.ok, X.ds, X.d, Op1.ev, Op2.ev, List.getD_cons_zero, D.int_i, D.bool_b, D.lst_l, F69, ↓reduceIte, dlt_t, ports8D, ports8, cL, if_pos h]
  · simp (disch := omega) only [vt69, VT.ok, Nd.holds, X.outs, X.ds, X.d, Op1.ev, Op2.ev, List.cons_append, List.nil_append, List.getD_cons_zero, List.getD_cons_succ, D.int_i, D.bool_b, D.lst_l, Bool.false_eq_true, F16900, R16900, F69, ↓reduceIte, dlt_f, ports8D, ports8, cL, if_neg h]
    refine ⟨fun _ => hpre, ?_⟩
    simp only [lpPorts, Int.toNat_zero, portsE]
    rcases errLp_two (portE xs) (.i 0) xs.length with ⟨h1, h2⟩ | ⟨h1, _, h2⟩ <;> simp (disch := omega) only [h1, h2, takeD_zero, takeD_cons, List.getD_cons_zero, List.getD_cons_succ, D.int_i, Bool.false_eq_true, ↓reduceIte, beq_t, beq_f]
theorem loopM60_1 : LoopMeets Try.prog F (R L60_1.key) L60_1 lb60_1 := by
  refine loop_meets (pre := R) mixed (sgAt_all (P := Try.prog) (pre := R) (Φ := F) (l := sg60) (List.forall_mem_cons.2 ⟨Meets.at (pre := R) (Φ := F) m38, (fun _ h => nomatch h)⟩)) (loops_n 0 lk60_1 fun k hk => by omega) L60_1 (fun ρ => ((ρ.getD 2 default).int - (ρ.getD 3 default).int).toNat) le60_1 fun ρ _ hq => ?_
  obtain ⟨xs, v, i, j, rfl, hj, hi, hm⟩ : prPortsI ρ := hq
  rw [maxLen_val] at hm
  by_cases hlt : j < i
  · simp (disch := omega) only [rt60_1, VT.ok, Nd.holds, X.ds, X.d, Op1.ev, Op2.ev, List.getD_cons_zero, List.getD_cons_succ, D.int_i, D.bool_b, D.lst_l, Int.toNat_natCast, implies_true, true_and, ↓reduceIte, dle_t, dlt_t, w64']
    show if nmP xs (cS (el xs i) 0) j = true then _ else _
    cases hb : nmP xs (cS (el xs i) 0) j
    · simp only [Bool.false_eq_true, if_false]
      refine round_next ⟨⟨xs, v, i, j + 1, rfl, by omega, hi, hm⟩, ?_, ?_⟩
      · show ((i : Int) - ((j + 1 : Nat) : Int)).toNat < ((i : Int) - (j : Int)).toNat
        omega
      · show lpPortsI [.l xs, v, .i (i : Int), .i ((j + 1 : Nat) : Int)] = lpPortsI [.l xs, v, .i (i : Int), .i (j : Int)]
        simp only [lpPortsI, Int.toNat_natCast]
        exact scan_next hlt hb
    · simp only [if_true]
      refine round_exit (by omega) ?_
      show lpPortsI [.l xs, v, .i (i : Int), .i (j : Int)] = _
      simp only [lpPortsI, Int.toNat_natCast]
      exact scan_hit hlt hb
  · have hj' : j = i := by omega
    subst hj'
    simp (disch := omega) only [rt60_1, VT.ok, X.ds, X.d, Op2.ev, List.getD_cons_zero, List.getD_cons_succ, D.int_i, D.bool_b, Bool.false_eq_true, ↓reduceIte, dlt_f]
    refine round_exit (by omega) ?_
    show lpPortsI [.l xs, v, .i (j : Int), .i (j : Int)] = _
    simp only [lpPortsI, Int.toNat_natCast]
    exact scan_end
theorem loopM60_0 : LoopMeets Try.prog F (R L60_0.key) L60_0 lb60_0 := by
  refine loop_meets (pre := R) mixed (sgAt_all (P := Try.prog) (pre := R) (Φ := F) (l := sg60) (List.forall_mem_cons.2 ⟨Meets.at (pre := R) (Φ := F) m38, (fun _ h => nomatch h)⟩)) (loops_n 1 lk60_0 fun k hk => match k, hk with | 0, _ => by rw [li60_0_0]; exact loop_this lf60_1 loopM60_1) L60_0 (fun ρ => (((ρ.getD 0 default).lst.length : Int) - (ρ.getD 2 default).int).toNat) le60_0 fun ρ _ hq => ?_
  obtain ⟨xs, v, j, rfl, hj, hm⟩ : prPortsR ρ := hq
  rw [maxLen_val] at hm
  by_cases hlt : j < xs.length
  · have hN : portE xs j = 0 → RoundOk F (R L60_0.key) (fun ρ => (((ρ.getD 0 default).lst.length : Int) - (ρ.getD 2 default).int).toNat) L60_0 [.l xs, v, .i (j : Int)] [.i (-1), v, .i ((j + 1 : Nat) : Int)] := fun h0 => by
      refine round_next ⟨⟨xs, v, j + 1, rfl, by omega, hm⟩, ?_, ?_⟩
      · show ((xs.length : Int) - ((j + 1 : Nat) : Int)).toNat < ((xs.length : Int) - (j : Int)).toNat
        omega
      · show lpPortsR [.l xs, v, .i ((j + 1 : Nat) : Int)] = lpPortsR [.l xs, v, .i (j : Int)]
        simp only [lpPortsR, errLp, Int.toNat_natCast]
        exact scan_next hlt (by simp only [er, h0]; rfl)
    have hX : ∀ z : Int, portE xs j = z → z ≠ 0 → RoundOk F (R L60_0.key) (fun ρ => (((ρ.getD 0 default).lst.length : Int) - (ρ.getD 2 default).int).toNat) L60_0 [.l xs, v, .i (j : Int)] [.i 0, .i z, .i (j : Int)] := fun z h0 hz => by
      refine round_exit (by omega) ?_
      show lpPortsR [.l xs, v, .i (j : Int)] = _
      simp only [lpPortsR, errLp, Int.toNat_natCast]
      rw [← h0]
      exact scan_hit hlt (by simp only [er, h0]; simpa using hz)
    have hpre : prPortsI [.l xs, v, .i (j : Int), .i 0] := ⟨xs, v, j, 0, rfl, by omega, hlt, by rw [maxLen_val]; omega⟩
    simp (disch := omega) only [rt60_0, VT.ok, Nd.holds, X.outs, X.ds, X.d, Op1.ev, Op2.ev, takeD_zero, takeD_cons, List.cons_append, List.nil_append, List.getD_cons_zero, List.getD_cons_succ, D.int_i, D.bool_b, D.lst_l, ite_b, ite_or, Int.toNat_natCast, implies_true, true_and, F38, R38, F16000, R16000, ↓reduceIte, dle_t, dlt_t, w64', nameD, cS, lpPortsI, Int.toNat_natCast, Int.toNat_zero, Nat.sub_zero]
    cases h1 : isName (cS (el xs j) 0)
    · simp only [Bool.not_false, if_true]
      exact hX 5 (by simp only [portE, h1, Bool.false_eq_true, if_false]) (by omega)
    · simp only [Bool.not_true, Bool.false_eq_true, if_false]
      refine ⟨fun _ => hpre, ?_⟩
      rcases scan_two (p := nmP xs (cS (el xs j) 0)) j with ⟨h2, k, _, _, _, h⟩ | ⟨h2, h⟩
      · simp only [h, takeD_zero, takeD_cons, List.getD_cons_zero, List.getD_cons_succ, D.int_i, ↓reduceIte, beq_t]
        exact hX 6 (by simp only [portE, h1, h2, if_true]) (by omega)
      · simp (disch := omega) only [h, takeD_zero, takeD_cons, List.getD_cons_zero, List.getD_cons_succ, D.int_i, Bool.false_eq_true, ↓reduceIte, beq_f]
        by_cases h3 : cI (el xs j) 1 < 0 ∨ 3 < cI (el xs j) 1
        · rw [if_pos (by exact dor_t h3)]
          exact hX 7 (by simp only [portE, h1, h2, if_true, Bool.false_eq_true, if_false, if_pos h3]) (by omega)
        · rw [if_neg (by exact dor_f h3)]
          exact hN (by simp only [portE, h1, h2, if_true, Bool.false_eq_true, if_false, if_neg h3])
  · have hj' : j = xs.length := by omega
    subst hj'
    simp (disch := omega) only [rt60_0, VT.ok, X.ds, X.d, Op1.ev, Op2.ev, List.getD_cons_zero, List.getD_cons_succ, D.int_i, D.bool_b, D.lst_l, Bool.false_eq_true, ↓reduceIte, dlt_f]
    refine round_exit (by omega) ?_
    show lpPortsR [.l xs, v, .i (xs.length : Int)] = _
    simp only [lpPortsR, errLp, Int.toNat_natCast]
    exact scan_end
theorem m60 : Meets Try.prog 60 S60 (R 60) (F 60) := by
  refine meets_of_vt (pre := R) (Φ := F) mixed (sgAt_all (P := Try.prog) (pre := R) (Φ := F) (l := sg60) (List.forall_mem_cons.2 ⟨Meets.at (pre := R) (Φ := F) m38, (fun _ h => nomatch h)⟩)) Try.func60 b60 n60 (loops_n 2 k60 fun k hk => match k, hk with | 0, _ => loop_this lf60_0 loopM60_0 | 1, _ => loop_this lf60_1 loopM60_1) e60 fun ds hf _ => ?_
  obtain ⟨x, rfl, hx⟩ := fits1 hf.flat
  obtain ⟨xs, rfl, hm, _⟩ := wf_sl hx
  have hpre : prPortsR [.l xs, .i 0, .i 0] := ⟨xs, _, 0, rfl, by omega, hm⟩
  simp (disch := omega) only [vt60, VT.ok, Nd.holds, X.outs, X.ds, X.d, Op2.ev, List.cons_append, List.nil_append, List.getD_cons_zero, List.getD_cons_succ, D.int_i, D.bool_b, D.lst_l, F16001, R16001, F60, portsD, cL]
  refine ⟨fun _ => hpre, ?_⟩
  simp only [lpPortsR, Int.toNat_zero, portsE]
  rcases errLp_two (portE xs) (.i 0) xs.length with ⟨h1, h2⟩ | ⟨h1, _, h2⟩ <;> simp (disch := omega) only [h1, h2, takeD_zero, takeD_cons, List.getD_cons_zero, List.getD_cons_succ, D.int_i, Bool.false_eq_true, ↓reduceIte, beq_t, beq_f]
end Go.Proofs.Ythpppbfiiphgoaa.rv
namespace Go.Proofs.Ythpppbfiiphgoaa.rv
set_option maxRecDepth 10000
open Go.RV
theorem if4 (a b c d : Bool) (p : Int) : if (!a || !b || c || d) = true then [D.i 3] = [D.i (if (a && b && !c && !d) = true then p else 3)] else [D.i p] = [D.i (if (a && b && !c && !d) = true then p else 3)] := by
  cases a <;> cases b <;> cases c <;> cases d <;> rfl
theorem m48 : Meets Try.prog 48 S48 (R 48) (F 48) := by
  refine meets_of_vt (pre := R) (Φ := F) mixed (sgAt_all (P := Try.prog) (pre := R) (Φ := F) (l := sg48) (List.forall_mem_cons.2 ⟨Meets.at (pre := R) (Φ := F) m47, List.forall_mem_cons.2 ⟨Meets.at (pre := R) (Φ := F) m66, List.forall_mem_cons.2 ⟨Meets.at (pre := R) (Φ := F) m67, List.forall_mem_cons.2 ⟨Meets.at (pre := R) (Φ := F) m68, List.forall_mem_cons.2 ⟨Meets.at (pre := R) (Φ := F) m69, (fun _ h => nomatch h)⟩⟩⟩⟩⟩)) Try.func48 b48 n48 (loops_n 0 k48 fun k hk => by omega) e48 fun ds hf hq => ?_
  obtain ⟨g, ds', rfl, h5, _, ⟨hmN, hN⟩, _⟩ := fitsG hf.flat
  obtain ⟨x, rfl, hx⟩ := fits1 h5
  obtain ⟨i, e, hi⟩ : prNode (.s g.nm :: .b g.dr :: .l g.N :: .l g.E :: .l g.C :: [x]) := hq
  have e : x = .i (i : Int) := e
  subst e
  have hi : i < g.N.length := hi
  simp (disch := omega) only [vt48, VT.ok, Nd.holds, X.outs, X.ds, X.d, Op1.ev, Op2.ev, takeD_zero, takeD_cons, List.cons_append, List.nil_append, List.getD_cons_zero, List.getD_cons_succ, D.int_i, D.bool_b, D.lst_l, ite_b, ite_or, Int.toNat_natCast, implies_true, true_and, F47, R47, F66, R66, F67, R67, F68, R68, F69, R69, F48, dle_t, dlt_t, nameD, findD, labelD, fn68_eq, sizedD, ports8D, nodeD, nodeE, cS, cI, cL, Int.toNat_natCast]
  cases h1 : isName (cS (el g.N i) 0)
  · simp only [Bool.not_false, if_true, Bool.false_eq_true, if_false]
  · simp only [Bool.not_true, if_true, Bool.false_eq_true, if_false]
    by_cases h2 : find g.N (cS (el g.N i) 0) < i
    · rw [if_pos (by exact dec_t h2), if_pos h2]
    · rw [if_neg (by exact dec_f h2), if_neg h2]
      by_cases h3 : labelE (cS (el g.N i) 1) = 0
      · rw [if_neg (by exact bne_f h3), if_pos h3]
        exact if4 _ _ _ _ _
      · rw [if_pos (by exact bne_t h3), if_neg h3]
theorem m39 : Meets Try.prog 39 S39 (R 39) (F 39) := by
  refine meets_of_vt (pre := R) (Φ := F) mixed (sgAt_all (P := Try.prog) (pre := R) (Φ := F) (l := sg39) (List.forall_mem_cons.2 ⟨Meets.at (pre := R) (Φ := F) m38, List.forall_mem_cons.2 ⟨Meets.at (pre := R) (Φ := F) m58, List.forall_mem_cons.2 ⟨Meets.at (pre := R) (Φ := F) m59, List.forall_mem_cons.2 ⟨Meets.at (pre := R) (Φ := F) m60, (fun _ h => nomatch h)⟩⟩⟩⟩)) Try.func39 b39 n39 (loops_n 0 k39 fun k hk => by omega) e39 fun ds hf hq => ?_
  obtain ⟨g, ds', rfl, h5, _, ⟨hmN, hN⟩, _⟩ := fitsG hf.flat
  obtain ⟨x, rfl, hx⟩ := fits1 h5
  obtain ⟨i, e, hi⟩ : prNode (.s g.nm :: .b g.dr :: .l g.N :: .l g.E :: .l g.C :: [x]) := hq
  have e : x = .i (i : Int) := e
  subst e
  have hi : i < g.N.length := hi
  have hfl := find_le hi
  have hF : F 39 (.s g.nm :: .b g.dr :: .l g.N :: .l g.E :: .l g.C :: [.i (i : Int)]) = [.i (nodeE g.N g.C i)] := rfl
  rw [hF]
  generalize hv : nodeE g.N g.C i = res
  unfold nodeE at hv
  simp (disch := omega) only [vt39, VT.ok, Nd.holds, X.outs, X.ds, X.d, Op1.ev, Op2.ev, takeD_zero, takeD_cons, List.cons_append, List.nil_append, List.getD_cons_zero, List.getD_cons_succ, D.int_i, D.bool_b, D.lst_l, ite_b, ite_or, Int.toNat_natCast, implies_true, true_and, F38, R38, F58, R58, F59, R59, F60, R60, dle_t, dlt_t, nameD, findD, plainD, portsD, cS, cL, Int.toNat_natCast]
  cases h1 : isName (cS (el g.N i) 0)
  · rw [h1] at hv
    simp only [Bool.not_false, if_true]
    rw [← hv]; rfl
  · simp only [h1, if_true] at hv
    simp only [Bool.not_true, Bool.false_eq_true, if_false]
    by_cases h2 : find g.N (cS (el g.N i) 0) < i
    · rw [if_pos h2] at hv
      have h2' : find g.N (cS (el g.N i) 0) ≠ i := by omega
      rw [if_pos (by exact bne_t h2'), ← hv]
    · rw [if_neg h2] at hv
      have h2' : find g.N (cS (el g.N i) 0) = i := by omega
      rw [if_neg (by exact bne_f h2')]
      by_cases h4 : 32 < ((cS (el g.N i) 1).size : Int)
      · have h3 : labelE (cS (el g.N i) 1) = 2 := by rw [labelE, if_pos h4]
        rw [h3, if_neg (by decide)] at hv
        rw [if_pos (by exact dec_t h4), ← hv]
      · rw [if_neg (by exact dec_f h4)]
        cases h6 : plainB (cS (el g.N i) 1)
        · have h3 : labelE (cS (el g.N i) 1) = 7 := by rw [labelE, if_neg h4, h6]; rfl
          rw [h3, if_neg (by decide)] at hv
          simp only [Bool.not_false, if_true]
          rw [← hv]
        · have h3 : labelE (cS (el g.N i) 1) = 0 := by rw [labelE, if_neg h4, h6]; rfl
          rw [h3, if_pos rfl] at hv
          simp only [Bool.not_true, Bool.false_eq_true, if_false]
          have f : ∀ x : Int, sizedB x = !(decide (x < 1) || decide (1048576 < x)) := fun x => by
            unfold sizedB
            rw [Bool.not_or, ← decide_not, ← decide_not]
            congr 1 <;> exact decide_eq_decide.2 (by omega)
          have e : (sizedB (cI (el g.N i) 2) && sizedB (cI (el g.N i) 3) && !decide (cI (el g.N i) 4 < -1) && !decide ((g.C.length : Int) ≤ cI (el g.N i) 4)) = !(((((decide (cI (el g.N i) 2 < 1) || decide (1048576 < cI (el g.N i) 2)) || decide (cI (el g.N i) 3 < 1)) || decide (1048576 < cI (el g.N i) 3)) || decide (cI (el g.N i) 4 < -1)) || decide ((g.C.length : Int) ≤ cI (el g.N i) 4)) := by
            rw [f, f]
            simp only [Bool.not_or, Bool.and_assoc]
          rw [e] at hv
          cases hc : (((((decide (cI (el g.N i) 2 < 1) || decide (1048576 < cI (el g.N i) 2)) || decide (cI (el g.N i) 3 < 1)) || decide (1048576 < cI (el g.N i) 3)) || decide (cI (el g.N i) 4 < -1)) || decide ((g.C.length : Int) ≤ cI (el g.N i) 4))
          · rw [hc] at hv
            rw [if_neg (by first | exact ne_true_of_eq_false hc | decide)]
            have hv : ports8 (cL (el g.N i) 5) = res := hv
            by_cases h8 : 8 < ((cL (el g.N i) 5).length : Int)
            · rw [ports8, if_pos h8] at hv
              rw [if_pos (by exact dec_t h8), ← hv]
            · rw [ports8, if_neg h8] at hv
              rw [if_neg (by exact dec_f h8), ← hv]
          · rw [hc] at hv
            rw [if_pos (by first | exact hc | rfl), ← hv]; rfl
end Go.Proofs.Ythpppbfiiphgoaa.rv
