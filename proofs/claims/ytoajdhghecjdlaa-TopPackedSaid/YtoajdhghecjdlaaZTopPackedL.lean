/-
  RV, part 22: slices.Clone and slices.Delete, walked.; Points and boxes: small functions of the program and the reference.; Packed texts: the table of closed forms.; Boxes: overlap, inflate, options, function values of boxes, unions.; Lists of boxes: searches, unions.; Packing: checks, shelves, extents.; Packing: the best of several widths.; Paths and texts: what is valid, bounds.; Items.; Bounds of scenes; what is valid.; Graphs: names and labels.; Graphs: library functions.
-/
import Derived.Test.YtoajdhghecjdlaaZTopPackedK
namespace Go.Proofs.Ytoajdhghecjdlaa.rv
open Go.RV Go.RowKit Go.Lib
set_option maxHeartbeats 1000000 in
theorem cloneNil26 (w : World) : Calls Try.prog 26 #[.slice none 0 0] w fun e w' => e = .returned (.slice none 0 0) ∧ w' = w := by
  have t22 : Try.prog.underlying 24 = some (.slice 26) := by kernel_rfl
  have q22 : ∀ (w : World) (a : Option Addr) (n c n' c' : Nat), (binOp .eql 24 (.slice a n c) (.slice none n' c')).run Try.prog w = .ok (.bool a.isNone) w := fun w a n c n' c' => Lib.run_eql_slice_nil w _ _ a n c n' c' t22
  go_enter Try.func26, Try.ntmps26
  go_wp2
  go_ret
  exact ⟨rfl, rfl⟩
set_option maxHeartbeats 2000000 in
set_option maxRecDepth 100000 in
theorem cloneSome26 (w : World) (q : Addr) (n c : Nat) (news : List Value) (hl : news.length = n * 2) (hc : ∀ j u, news[j]? = some u → w.cell? (q.add j) = some u) (h1 : ∀ u ∈ news, u.oneCell' = true) (hn : n ≤ 8796093022208) :
      Calls Try.prog 26 #[.slice (some q) n c] w fun e' w' => ∃ v', e' = .returned v' ∧ w'.ownsRow w.heap.size 26 2 v' n news ∧ Below w.heap.size w w' := by
  have t22 : Try.prog.underlying 24 = some (.slice 26) := by kernel_rfl
  obtain ⟨i0, z, hi, hz0, hz1, hzs, hby, hsz⟩ := infoOk_spec (P := Try.prog) (e := 26) (k := 2) (B := 16) (by kernel_rfl)
  have q22 : ∀ (w : World) (a : Option Addr) (n c n' c' : Nat), (binOp .eql 24 (.slice a n c) (.slice none n' c')).run Try.prog w = .ok (.bool a.isNone) w := fun w a n c n' c' => Lib.run_eql_slice_nil w _ _ a n c n' c' t22
  have z23 : ∀ w, (Go.sizeOf 26).run Try.prog w = .ok 2 w := fun w => by simp [sizeOf, typeInfo, hi, hz1]
  have hbig : n * i0.bytes ≤ 140737488355328 := by
    have := Nat.mul_le_mul hn hby
    omega
  have A : Aside (∀ j u, news[j]? = some u → w.cell? (q.add j) = some u) := hc
  clear hc
  go_enter Try.func26, Try.ntmps26
  go_wp2_with (at_builtin; refine wpList_append_own _ rfl _ _ 24 rfl w.heap.size 26 i0 z 2 i0.bytes t22 hi hz0 hz1 rfl hzs hsz _ _ _ rfl (World.ownsRow_made w #[] 0 (Nat.le_refl _) (Nat.zero_le _) (by simp)) q n c news rfl ?qc1 ?qc2 ?qc3 ?qc4 ?qc5 ?qc6 ?_)
  case qc1 => exact hl
  case qc2 =>
    intro j u hj
    exact Lib.cell?_alloc_some _ (A.out j u hj)
  case qc3 => exact h1
  case qc4 => rw [Nat.zero_add]; unfold maxLen; omega
  case qc5 => rw [Nat.zero_add]; exact hbig
  case qc6 => simp
  intro v' w1 hown hgrow hnil
  go_wp2
  go_ret
  refine ⟨v', rfl, by simpa using hown, ?_⟩
  exact ((Below.refl _ w).alloc (Nat.le_refl _) _).grown hgrow (by simp) (by intro k hk; simp [Value.ownBlock] at hk; omega)
theorem m26 : Meets Try.prog 26 S26 (clonePreM 8796093022208) cloneD := clone_meets rfl rfl (by decide) (enter_of Try.func26 b26 n26) cloneNil26 cloneSome26
end Go.Proofs.Ytoajdhghecjdlaa.rv
namespace Go.Proofs.Ytoajdhghecjdlaa.rv
set_option maxRecDepth 10000
open Go.RV
theorem fn30_eq (a b : D) : fn30 [a, b] = [.b (ptB a.int b.int)] := by
  simp only [fn30, vt30, VT.val, X.ds, X.d, Op2.ev, List.getD_cons_zero, List.getD_cons_succ, D.int_i, D.bool_b, ite_b, ite_and, ptB, Bool.and_assoc]
theorem fn17_eq (a b c d : D) : fn17 [a, b, c, d] = [.b (bxB a.int b.int c.int d.int)] := by
  simp only [fn17, vt17, VT.val, X.outs, X.ds, X.d, Op2.ev, takeD_zero, takeD_cons, List.cons_append, List.nil_append, List.getD_cons_zero, List.getD_cons_succ, D.bool_b, ite_b, ite_and, show T17 30 = fn30 from rfl, fn30_eq, bxB]
end Go.Proofs.Ytoajdhghecjdlaa.rv
namespace Go.Proofs.Ytoajdhghecjdlaa.rv
set_option maxRecDepth 10000
open Go.RV
def ctsG : List CT := [.str, .bool, .sl 43 [.str, .str, .int .i64, .int .i64, .int .i64, .sl 116 [.str, .int .i64]], .sl 73 [.int .i64, .int .i64, .int .i64, .int .i64, .str, .int .i64, .int .i64], .sl 105 [.str, .int .i64]]
def F : FuncId → List D → List D := tabOf [(29, fn29), (10, fn10), (16, fn16), (33, fn33), (20, fn20), (32, fn32), (22, fn22), (61, fn61), (62, fn62), (15000, lpWord), (50, wordD), (51, fn51), (37, nameD), (64, fn64), (20044, dyNm), (16300, ixLp dyNm 6), (63, ixFn dyNm 6), (52, findD), (15300, lpLab), (53, labelD), (54, fn54), (66, fn66), (20117, dyNm), (17100, ixLp dyNm 2), (71, ixFn dyNm 2), (65, cfFn dyNm 2), (15500, lpPorts), (55, ports8D), (38, nodeD), (57, fn57), (20106, dyNm), (16700, ixLp dyNm 2), (67, ixFn dyNm 2), (56, cfFn dyNm 2), (16800, lpAr), (68, aroundD), (58, depthD), (39, cluD), (40, edgeD), (12400, lpV0), (12401, lpV1), (12402, lpV2), (24, validD), (43, depED), (30, fn30), (17, fn17), (45, fn45), (95, fn95), (36, fn36), (20027, dyPt), (19600, ixLp dyPt 2), (96, ixFn dyPt 2), (94, cfFn dyPt 2), (19200, lpDis), (92, disD), (93, ptsD), (91, pathD), (19000, lpBn), (90, bndD), (20006, dyBy), (14900, ixLp dyBy 1), (49, ixFn dyBy 1), (35, cfFn dyBy 1), (23, plainD), (44, fn44), (60, usedD), (89, extL), (97, fn97), (47, itmD), (12700, lpBc), (14600, lpUn), (46, uniD), (27, bdsD), (12800, lpVc), (28, valD), (26, cloneD), (42, clpD), (24004, dyDep), (16900, lpSr1), (16901, lpSr0), (69, insD), (70, cloneD), (15900, lpZ0), (15901, lpZ0), (15902, lpZ1), (59, stbD), (41, srtD), (12500, lpId), (25, grpsD), (11200, lpB0), (11201, lpB1), (11202, lpB2), (11203, lpB3), (11204, lpB4), (12, buildD), (4, oneD), (11300, lpCk), (13, chkD), (11400, lpSh), (14, shD), (11500, lpEx), (15, extD), (10600, lpBe), (6, bestD), (10701, lpDj), (10700, lpDk), (7, disjD), (20004, dyIn), (14800, ixLp dyIn 1), (48, ixFn dyIn 1), (31, cfFn dyIn 1), (18, szD), (15019000, putQD), (10800, lpAn), (8, arndD), (20036, dyOv), (13400, ixLp dyOv 4), (34, ixFn dyOv 4), (21, cfFn dyOv 4), (10900, lpFr), (9, freeD), (11, widD), (10500, lpTz), (5, tszD), (10300, lpU0), (10302, lpU1), (10301, lpU2), (10303, lpU3)]
def R : FuncId → List D → Prop := tabP [(15000, prWord), (20044, dpNm 64 [.str] 1 6), (16300, ixPr (dpNm 64 [.str] 1 6) 6), (63, ixPre (dpNm 64 [.str] 1 6) 6), (15300, prLab), (20117, dpNm 66 [.str, .int .i64] 2 2), (17100, ixPr (dpNm 66 [.str, .int .i64] 2 2) 2), (71, ixPre (dpNm 66 [.str, .int .i64] 2 2) 2), (65, ixPre (dpNm 66 [.str, .int .i64] 2 2) 2), (15500, prPorts), (38, prNode), (20106, dpNm 57 [.str, .int .i64] 2 2), (16700, ixPr (dpNm 57 [.str, .int .i64] 2 2) 2), (67, ixPre (dpNm 57 [.str, .int .i64] 2 2) 2), (56, ixPre (dpNm 57 [.str, .int .i64] 2 2) 2), (16800, prArL), (68, prAr), (58, prAr), (39, prClu), (12400, prV0), (12401, prV1), (12402, prV2), (20027, dpPt 95), (19600, ixPr (dpPt 95) 2), (96, ixPre (dpPt 95) 2), (94, ixPre (dpPt 95) 2), (19200, prDis), (19000, prBn), (20006, dpBy 36), (14900, ixPr (dpBy 36) 1), (49, ixPre (dpBy 36) 1), (35, ixPre (dpBy 36) 1), (12700, prBc), (14600, prUn), (27, bdPre), (12800, prVc), (26, clonePreP), (42, prClp), (24004, dpDep 42 ctsG), (16900, prSr1 42 ctsG), (16901, prSr0 42 ctsG), (69, prIns 42 ctsG), (70, never), (15900, prZ0), (15901, never), (15902, prZ1), (59, prStb 42 ctsG), (41, prSt 42 ctsG), (12500, prId), (25, okV0), (11200, prB0), (11201, prB1), (11202, prB2), (11203, prB3), (11204, prB4), (12, prBuild), (11300, prCk), (13, chkPre), (11400, prSh), (14, shPre), (11500, prEx), (15, extPre), (10600, prBe), (6, bestPre), (10701, prDj), (10700, prDk), (20004, dpIn 32), (14800, ixPr (dpIn 32) 1), (48, ixPre (dpIn 32) 1), (31, ixPre (dpIn 32) 1), (15019000, putQP), (10800, prAn), (20036, dpOv 22), (13400, ixPr (dpOv 22) 4), (34, ixPre (dpOv 22) 4), (21, ixPre (dpOv 22) 4), (10900, prFr), (9, freePre), (11, widP), (10500, prTz), (5, tszP), (10300, prU0), (10302, prU1), (10301, prU2), (10303, prU3)]
theorem F10 : F 10 = fn10 := rfl
theorem R10 : R 10 = fun _ => True := rfl
theorem F16 : F 16 = fn16 := rfl
theorem R16 : R 16 = fun _ => True := rfl
theorem F20 : F 20 = fn20 := rfl
theorem R20 : R 20 = fun _ => True := rfl
theorem F61 : F 61 = fn61 := rfl
theorem R61 : R 61 = fun _ => True := rfl
theorem F62 : F 62 = fn62 := rfl
theorem R62 : R 62 = fun _ => True := rfl
theorem F15000 : F 15000 = lpWord := rfl
theorem R15000 : R 15000 = prWord := rfl
theorem F50 : F 50 = wordD := rfl
theorem R50 : R 50 = fun _ => True := rfl
theorem F51 : F 51 = fn51 := rfl
theorem R51 : R 51 = fun _ => True := rfl
theorem F37 : F 37 = nameD := rfl
theorem R37 : R 37 = fun _ => True := rfl
theorem F20044 : F 20044 = dyNm := rfl
theorem R20044 : R 20044 = dpNm 64 [.str] 1 6 := rfl
theorem F16300 : F 16300 = ixLp dyNm 6 := rfl
theorem R16300 : R 16300 = ixPr (dpNm 64 [.str] 1 6) 6 := rfl
theorem F63 : F 63 = ixFn dyNm 6 := rfl
theorem R63 : R 63 = ixPre (dpNm 64 [.str] 1 6) 6 := rfl
theorem F52 : F 52 = findD := rfl
theorem R52 : R 52 = fun _ => True := rfl
theorem F15300 : F 15300 = lpLab := rfl
theorem R15300 : R 15300 = prLab := rfl
theorem F53 : F 53 = labelD := rfl
theorem R53 : R 53 = fun _ => True := rfl
theorem F54 : F 54 = fn54 := rfl
theorem R54 : R 54 = fun _ => True := rfl
theorem F20117 : F 20117 = dyNm := rfl
theorem R20117 : R 20117 = dpNm 66 [.str, .int .i64] 2 2 := rfl
theorem F17100 : F 17100 = ixLp dyNm 2 := rfl
theorem R17100 : R 17100 = ixPr (dpNm 66 [.str, .int .i64] 2 2) 2 := rfl
theorem F71 : F 71 = ixFn dyNm 2 := rfl
theorem R71 : R 71 = ixPre (dpNm 66 [.str, .int .i64] 2 2) 2 := rfl
theorem F65 : F 65 = cfFn dyNm 2 := rfl
theorem R65 : R 65 = ixPre (dpNm 66 [.str, .int .i64] 2 2) 2 := rfl
theorem F15500 : F 15500 = lpPorts := rfl
theorem R15500 : R 15500 = prPorts := rfl
theorem F55 : F 55 = ports8D := rfl
theorem R55 : R 55 = fun _ => True := rfl
theorem F38 : F 38 = nodeD := rfl
theorem R38 : R 38 = prNode := rfl
theorem F20106 : F 20106 = dyNm := rfl
theorem R20106 : R 20106 = dpNm 57 [.str, .int .i64] 2 2 := rfl
theorem F16700 : F 16700 = ixLp dyNm 2 := rfl
theorem R16700 : R 16700 = ixPr (dpNm 57 [.str, .int .i64] 2 2) 2 := rfl
theorem F67 : F 67 = ixFn dyNm 2 := rfl
theorem R67 : R 67 = ixPre (dpNm 57 [.str, .int .i64] 2 2) 2 := rfl
theorem F56 : F 56 = cfFn dyNm 2 := rfl
theorem R56 : R 56 = ixPre (dpNm 57 [.str, .int .i64] 2 2) 2 := rfl
theorem F16800 : F 16800 = lpAr := rfl
theorem R16800 : R 16800 = prArL := rfl
theorem F68 : F 68 = aroundD := rfl
theorem R68 : R 68 = prAr := rfl
theorem F58 : F 58 = depthD := rfl
theorem R58 : R 58 = prAr := rfl
theorem F39 : F 39 = cluD := rfl
theorem R39 : R 39 = prClu := rfl
theorem F40 : F 40 = edgeD := rfl
theorem R40 : R 40 = fun _ => True := rfl
theorem F12400 : F 12400 = lpV0 := rfl
theorem R12400 : R 12400 = prV0 := rfl
theorem F12401 : F 12401 = lpV1 := rfl
theorem R12401 : R 12401 = prV1 := rfl
theorem F12402 : F 12402 = lpV2 := rfl
theorem R12402 : R 12402 = prV2 := rfl
theorem F24 : F 24 = validD := rfl
theorem R24 : R 24 = fun _ => True := rfl
theorem F43 : F 43 = depED := rfl
theorem R43 : R 43 = fun _ => True := rfl
theorem F17 : F 17 = fn17 := rfl
theorem R17 : R 17 = fun _ => True := rfl
theorem F45 : F 45 = fn45 := rfl
theorem R45 : R 45 = fun _ => True := rfl
theorem F20027 : F 20027 = dyPt := rfl
theorem R20027 : R 20027 = dpPt 95 := rfl
theorem F19600 : F 19600 = ixLp dyPt 2 := rfl
theorem R19600 : R 19600 = ixPr (dpPt 95) 2 := rfl
theorem F96 : F 96 = ixFn dyPt 2 := rfl
theorem R96 : R 96 = ixPre (dpPt 95) 2 := rfl
theorem F94 : F 94 = cfFn dyPt 2 := rfl
theorem R94 : R 94 = ixPre (dpPt 95) 2 := rfl
theorem F19200 : F 19200 = lpDis := rfl
theorem R19200 : R 19200 = prDis := rfl
theorem F92 : F 92 = disD := rfl
theorem R92 : R 92 = fun _ => True := rfl
theorem F93 : F 93 = ptsD := rfl
theorem R93 : R 93 = fun _ => True := rfl
theorem F91 : F 91 = pathD := rfl
theorem R91 : R 91 = fun _ => True := rfl
theorem F19000 : F 19000 = lpBn := rfl
theorem R19000 : R 19000 = prBn := rfl
theorem F90 : F 90 = bndD := rfl
theorem R90 : R 90 = fun _ => True := rfl
theorem F20006 : F 20006 = dyBy := rfl
theorem R20006 : R 20006 = dpBy 36 := rfl
theorem F14900 : F 14900 = ixLp dyBy 1 := rfl
theorem R14900 : R 14900 = ixPr (dpBy 36) 1 := rfl
theorem F49 : F 49 = ixFn dyBy 1 := rfl
theorem R49 : R 49 = ixPre (dpBy 36) 1 := rfl
theorem F35 : F 35 = cfFn dyBy 1 := rfl
theorem R35 : R 35 = ixPre (dpBy 36) 1 := rfl
theorem F23 : F 23 = plainD := rfl
theorem R23 : R 23 = fun _ => True := rfl
theorem F44 : F 44 = fn44 := rfl
theorem R44 : R 44 = fun _ => True := rfl
theorem F60 : F 60 = usedD := rfl
theorem R60 : R 60 = fun _ => True := rfl
theorem F89 : F 89 = extL := rfl
theorem R89 : R 89 = fun _ => True := rfl
theorem F97 : F 97 = fn97 := rfl
theorem R97 : R 97 = fun _ => True := rfl
theorem F47 : F 47 = itmD := rfl
theorem R47 : R 47 = fun _ => True := rfl
theorem F12700 : F 12700 = lpBc := rfl
theorem R12700 : R 12700 = prBc := rfl
theorem F14600 : F 14600 = lpUn := rfl
theorem R14600 : R 14600 = prUn := rfl
theorem F46 : F 46 = uniD := rfl
theorem R46 : R 46 = fun _ => True := rfl
theorem F27 : F 27 = bdsD := rfl
theorem R27 : R 27 = bdPre := rfl
theorem F12800 : F 12800 = lpVc := rfl
theorem R12800 : R 12800 = prVc := rfl
theorem F28 : F 28 = valD := rfl
theorem R28 : R 28 = fun _ => True := rfl
theorem F26 : F 26 = cloneD := rfl
theorem R26 : R 26 = clonePreP := rfl
theorem F42 : F 42 = clpD := rfl
theorem F24004 : F 24004 = dyDep := rfl
theorem R24004 : R 24004 = dpDep 42 ctsG := rfl
theorem F16900 : F 16900 = lpSr1 := rfl
theorem R16900 : R 16900 = prSr1 42 ctsG := rfl
theorem F16901 : F 16901 = lpSr0 := rfl
theorem R16901 : R 16901 = prSr0 42 ctsG := rfl
theorem F69 : F 69 = insD := rfl
theorem R69 : R 69 = prIns 42 ctsG := rfl
theorem F15900 : F 15900 = lpZ0 := rfl
theorem R15900 : R 15900 = prZ0 := rfl
theorem F15902 : F 15902 = lpZ1 := rfl
theorem R15902 : R 15902 = prZ1 := rfl
theorem F59 : F 59 = stbD := rfl
theorem R59 : R 59 = prStb 42 ctsG := rfl
theorem F41 : F 41 = srtD := rfl
theorem R41 : R 41 = prSt 42 ctsG := rfl
theorem F12500 : F 12500 = lpId := rfl
theorem R12500 : R 12500 = prId := rfl
theorem F25 : F 25 = grpsD := rfl
theorem R25 : R 25 = okV0 := rfl
theorem F11200 : F 11200 = lpB0 := rfl
theorem R11200 : R 11200 = prB0 := rfl
theorem F11201 : F 11201 = lpB1 := rfl
theorem R11201 : R 11201 = prB1 := rfl
theorem F11202 : F 11202 = lpB2 := rfl
theorem R11202 : R 11202 = prB2 := rfl
theorem F11203 : F 11203 = lpB3 := rfl
theorem R11203 : R 11203 = prB3 := rfl
theorem F11204 : F 11204 = lpB4 := rfl
theorem R11204 : R 11204 = prB4 := rfl
theorem F12 : F 12 = buildD := rfl
theorem R12 : R 12 = prBuild := rfl
theorem F4 : F 4 = oneD := rfl
theorem R4 : R 4 = fun _ => True := rfl
theorem F11300 : F 11300 = lpCk := rfl
theorem R11300 : R 11300 = prCk := rfl
theorem F13 : F 13 = chkD := rfl
theorem R13 : R 13 = chkPre := rfl
theorem F11400 : F 11400 = lpSh := rfl
theorem R11400 : R 11400 = prSh := rfl
theorem F14 : F 14 = shD := rfl
theorem R14 : R 14 = shPre := rfl
theorem F11500 : F 11500 = lpEx := rfl
theorem R11500 : R 11500 = prEx := rfl
theorem F15 : F 15 = extD := rfl
theorem R15 : R 15 = extPre := rfl
theorem F10600 : F 10600 = lpBe := rfl
theorem R10600 : R 10600 = prBe := rfl
theorem F6 : F 6 = bestD := rfl
theorem R6 : R 6 = bestPre := rfl
theorem F10701 : F 10701 = lpDj := rfl
theorem R10701 : R 10701 = prDj := rfl
theorem F10700 : F 10700 = lpDk := rfl
theorem R10700 : R 10700 = prDk := rfl
theorem F7 : F 7 = disjD := rfl
theorem R7 : R 7 = fun _ => True := rfl
theorem F20004 : F 20004 = dyIn := rfl
theorem R20004 : R 20004 = dpIn 32 := rfl
theorem F14800 : F 14800 = ixLp dyIn 1 := rfl
theorem R14800 : R 14800 = ixPr (dpIn 32) 1 := rfl
theorem F48 : F 48 = ixFn dyIn 1 := rfl
theorem R48 : R 48 = ixPre (dpIn 32) 1 := rfl
theorem F31 : F 31 = cfFn dyIn 1 := rfl
theorem R31 : R 31 = ixPre (dpIn 32) 1 := rfl
theorem F18 : F 18 = szD := rfl
theorem R18 : R 18 = fun _ => True := rfl
theorem F15019000 : F 15019000 = putQD := rfl
theorem R15019000 : R 15019000 = putQP := rfl
theorem F10800 : F 10800 = lpAn := rfl
theorem R10800 : R 10800 = prAn := rfl
theorem F8 : F 8 = arndD := rfl
theorem R8 : R 8 = fun _ => True := rfl
theorem F20036 : F 20036 = dyOv := rfl
theorem R20036 : R 20036 = dpOv 22 := rfl
theorem F13400 : F 13400 = ixLp dyOv 4 := rfl
theorem R13400 : R 13400 = ixPr (dpOv 22) 4 := rfl
theorem F34 : F 34 = ixFn dyOv 4 := rfl
theorem R34 : R 34 = ixPre (dpOv 22) 4 := rfl
theorem F21 : F 21 = cfFn dyOv 4 := rfl
theorem R21 : R 21 = ixPre (dpOv 22) 4 := rfl
theorem F10900 : F 10900 = lpFr := rfl
theorem R10900 : R 10900 = prFr := rfl
theorem F9 : F 9 = freeD := rfl
theorem R9 : R 9 = freePre := rfl
theorem F11 : F 11 = widD := rfl
theorem R11 : R 11 = widP := rfl
theorem F10500 : F 10500 = lpTz := rfl
theorem R10500 : R 10500 = prTz := rfl
theorem F5 : F 5 = tszD := rfl
theorem R5 : R 5 = tszP := rfl
theorem F10300 : F 10300 = lpU0 := rfl
theorem R10300 : R 10300 = prU0 := rfl
theorem F10302 : F 10302 = lpU1 := rfl
theorem R10302 : R 10302 = prU1 := rfl
theorem F10301 : F 10301 = lpU2 := rfl
theorem R10301 : R 10301 = prU2 := rfl
theorem F10303 : F 10303 = lpU3 := rfl
theorem R10303 : R 10303 = prU3 := rfl
end Go.Proofs.Ytoajdhghecjdlaa.rv
namespace Go.Proofs.Ytoajdhghecjdlaa.rv
set_option maxRecDepth 10000
open Go.RV
theorem fn10_eq (a b c d e f g h : D) : fn10 [a, b, c, d, e, f, g, h] = [.b (ovQ (a.int, b.int, c.int, d.int) (e.int, f.int, g.int, h.int))] := by
  simp only [fn10, vt10, VT.val, X.outs, X.ds, X.d, Op2.ev, takeD_zero, takeD_cons, List.cons_append, List.nil_append, List.getD_cons_zero, List.getD_cons_succ, D.int_i, D.bool_b, ite_b, ite_and, imin, imax, show T10 17 = fn17 from rfl, fn17_eq, ovQ, bxQ]
theorem infl_no {q : Bx} {k : Int} (h : bxQ q = false ∨ k < -536870912 ∨ 536870912 < k) : inflQ q k = z4 := by
  unfold inflQ
  rw [if_neg]
  rintro ⟨h1, h2, h3, _⟩
  rcases h with h | h | h
  · rw [h] at h1; cases h1
  · omega
  · omega
theorem fn29_eq (a b c d : Int) : fn29 [.i a, .i b, .i c, .i d] = if bxB a b c d = true then [.i a, .i b, .i c, .i d] else [.i 0, .i 0, .i 0, .i 0] := by
  simp only [fn29, vt29, VT.val, X.outs, X.ds, X.d, Op1.ev, takeD_zero, takeD_cons, List.cons_append, List.nil_append, List.getD_cons_zero, List.getD_cons_succ, D.int_i, D.bool_b, show T29 17 = fn17 from rfl, fn17_eq]
  cases h : bxB a b c d <;> rfl
theorem fn16_eq (q : Bx) (k : Int) : fn16 [.i q.1, .i q.2.1, .i q.2.2.1, .i q.2.2.2, .i k] = encQ (inflQ q k) := by
  simp only [fn16, vt16, VT.val, X.outs, X.ds, X.d, Op1.ev, Op2.ev, takeD_zero, takeD_cons, List.cons_append, List.nil_append, List.getD_cons_zero, List.getD_cons_succ, D.int_i, D.bool_b, ite_b, ite_or, show T16 17 = fn17 from rfl, show T16 29 = fn29 from rfl, fn17_eq]
  cases hv : bxB q.1 q.2.1 q.2.2.1 q.2.2.2 with
  | false => rw [infl_no (.inl hv)]; rfl
  | true =>
    by_cases h1 : 536870912 < k
    · rw [infl_no (.inr (.inr h1))]; simp [h1]; rfl
    · by_cases h2 : k < -536870912
      · rw [infl_no (.inr (.inl h2))]; simp [h2]; rfl
      · have := bxB_iff.1 hv
        have e1 : IntKind.i64.wrap (q.1 - k) = q.1 - k := w64 (by omega)
        have e2 : IntKind.i64.wrap (q.2.1 - k) = q.2.1 - k := w64 (by omega)
        have e3 : IntKind.i64.wrap (q.2.2.1 + k) = q.2.2.1 + k := w64 (by omega)
        have e4 : IntKind.i64.wrap (q.2.2.2 + k) = q.2.2.2 + k := w64 (by omega)
        have h3 : -536870912 ≤ k := by omega
        have h4 : k ≤ 536870912 := by omega
        simp only [h1, h2, decide_false, Bool.not_true, Bool.or_self, Bool.false_eq_true, if_false, e1, e2, e3, e4, fn29_eq, inflQ, bxQ, hv, h3, h4, true_and]
        cases hw : bxB (q.1 - k) (q.2.1 - k) (q.2.2.1 + k) (q.2.2.2 + k) <;> rfl
end Go.Proofs.Ytoajdhghecjdlaa.rv
namespace Go.Proofs.Ytoajdhghecjdlaa.rv
set_option maxRecDepth 10000
open Go.RV
theorem fn22_eq (a b : Bx) : fn22 [.i b.1, .i b.2.1, .i b.2.2.1, .i b.2.2.2, .p (encQ a)] = [.b (ovQ a b)] := by
  simp only [fn22, vt22, VT.val, X.outs, X.ds, X.d, takeD_zero, takeD_cons, List.cons_append, List.nil_append, List.getD_cons_zero, List.getD_cons_succ, D.int_i, D.ptd_p, encQ, show T22 10 = fn10 from rfl, fn10_eq]
theorem m20036 : Meets Try.prog 20036 S20036 (R 20036) (F 20036) := by
  refine meets_dyn (by decide) rfl fun d ds hf hp => ?_
  obtain ⟨r, q, e⟩ : dpOv 22 (d :: ds) := hp
  cases e
  exact ⟨22, ctQ, [.p (encQ r)], S22, _, fn22, rfl, by decide, m22, rfl, rfl, trivial, fn22_eq r q⟩
theorem fn32_eq (a : D) : fn32 [a] = [.b (decide (a.int < 0) || decide (1048576 < a.int))] := by
  simp only [fn32, vt32, VT.val, X.ds, X.d, Op2.ev, List.getD_cons_zero, D.int_i, D.bool_b, ite_b, ite_or]
theorem m20004 : Meets Try.prog 20004 S20004 (R 20004) (F 20004) := by
  refine meets_dyn (by decide) rfl fun d ds hf hp => ?_
  obtain ⟨a, e⟩ : dpIn 32 (d :: ds) := hp
  cases e
  exact ⟨32, [], [], S32, _, fn32, rfl, by decide, m32, rfl, rfl, trivial, fn32_eq a⟩
theorem loopM34_0 : LoopMeets Try.prog F (R L34_0.key) L34_0 lb34_0 := by
  refine loop_meets (pre := R) mixed (sgAt_all (P := Try.prog) (pre := R) (Φ := F) (l := sg34) (List.forall_mem_cons.2 ⟨Meets.at (pre := R) (Φ := F) m20036, (fun _ h => nomatch h)⟩)) (loops_n 0 lk34_0 fun k hk => by omega) L34_0 (fun ρ => ((ρ.getD 3 default).int - (ρ.getD 4 default).int).toNat) le34_0 fun ρ _ hq => ?_
  obtain ⟨xs, c, v, j, rfl, hj, hm, hp⟩ : ixPr (dpOv 22) 4 ρ := hq
  rw [maxLen_val] at hm
  by_cases hlt : j < xs.length
  · simp (disch := omega) only [rt34_0, VT.ok, Nd.holds, X.outs, X.ds, X.d, Op1.ev, Op2.ev, List.cons_append, List.nil_append, List.getD_cons_zero, List.getD_cons_succ, D.int_i, D.bool_b, D.lst_l, Int.toNat_natCast, implies_true, true_and, takeD1_0, F20036, R20036, ↓reduceIte, dle_t, dlt_t, w64']
    refine ⟨fun _ => hp j hlt, ?_⟩
    show if ((dyOv (c :: cellsN 4 (el xs j))).getD 0 default).bool = true then _ else _
    cases hb : ((dyOv (c :: cellsN 4 (el xs j))).getD 0 default).bool
    · simp only [Bool.false_eq_true, if_false]
      refine round_next ⟨⟨xs, c, v, j + 1, rfl, by omega, hm, hp⟩, ?_, ?_⟩
      · show ((xs.length : Int) - ((j + 1 : Nat) : Int)).toNat < ((xs.length : Int) - (j : Int)).toNat
        omega
      · show ixLp dyOv 4 [.l xs, c, v, .i (xs.length : Int), .i ((j + 1 : Nat) : Int)] = ixLp dyOv 4 [.l xs, c, v, .i (xs.length : Int), .i (j : Int)]
        simp only [ixLp, Int.toNat_natCast]
        exact scan_next hlt hb
    · simp only [if_true]
      refine round_exit (by omega) ?_
      show ixLp dyOv 4 [.l xs, c, v, .i (xs.length : Int), .i (j : Int)] = _
      simp only [ixLp, Int.toNat_natCast]
      exact scan_hit hlt hb
  · have hj' : j = xs.length := by omega
    subst hj'
    simp (disch := omega) only [rt34_0, VT.ok, X.ds, X.d, Op2.ev, List.getD_cons_zero, List.getD_cons_succ, D.int_i, D.bool_b, Bool.false_eq_true, ↓reduceIte, dlt_f]
    refine round_exit (by omega) ?_
    show ixLp dyOv 4 [.l xs, c, v, .i (xs.length : Int), .i (xs.length : Int)] = _
    simp only [ixLp, Int.toNat_natCast]
    exact scan_end
theorem m34 : Meets Try.prog 34 S34 (R 34) (F 34) := by
  refine meets_of_vt (pre := R) (Φ := F) mixed (sgAt_all (P := Try.prog) (pre := R) (Φ := F) (l := sg34) (List.forall_mem_cons.2 ⟨Meets.at (pre := R) (Φ := F) m20036, (fun _ h => nomatch h)⟩)) Try.func34 b34 n34 (loops_n 1 k34 fun k hk => match k, hk with | 0, _ => loop_this lf34_0 loopM34_0) e34 fun ds hf hq => ?_
  obtain ⟨x, c, rfl, hx, _⟩ := fits2 hf.flat
  obtain ⟨xs, rfl, hm, _⟩ := wf_sl hx
  have hq : ∀ i, i < xs.length → (dpOv 22) (c :: cellsN 4 (el xs i)) := hq
  have hpre : ixPr (dpOv 22) 4 [.l xs, c, .i 0, .i (xs.length : Int), .i 0] := ⟨xs, c, .i 0, 0, rfl, by omega, hm, hq⟩
  simp only [vt34, VT.ok, Nd.holds, X.outs, X.ds, X.d, Op1.ev, Op2.ev, List.cons_append, List.nil_append, List.getD_cons_zero, List.getD_cons_succ, D.int_i, D.bool_b, D.lst_l, F13400, R13400, F34]
  refine ⟨fun _ => hpre, ?_⟩
  simp only [ixLp, ixFn, Int.toNat_zero, Nat.sub_zero, scan_fs, ixI, cL, List.getD_cons_zero, List.getD_cons_succ, D.lst_l]
  split <;> rfl
theorem loopM48_0 : LoopMeets Try.prog F (R L48_0.key) L48_0 lb48_0 := by
  refine loop_meets (pre := R) mixed (sgAt_all (P := Try.prog) (pre := R) (Φ := F) (l := sg48) (List.forall_mem_cons.2 ⟨Meets.at (pre := R) (Φ := F) m20004, (fun _ h => nomatch h)⟩)) (loops_n 0 lk48_0 fun k hk => by omega) L48_0 (fun ρ => ((ρ.getD 3 default).int - (ρ.getD 4 default).int).toNat) le48_0 fun ρ _ hq => ?_
  obtain ⟨xs, c, v, j, rfl, hj, hm, hp⟩ : ixPr (dpIn 32) 1 ρ := hq
  rw [maxLen_val] at hm
  by_cases hlt : j < xs.length
  · simp (disch := omega) only [rt48_0, VT.ok, Nd.holds, X.outs, X.ds, X.d, Op1.ev, Op2.ev, List.cons_append, List.nil_append, List.getD_cons_zero, List.getD_cons_succ, D.int_i, D.bool_b, D.lst_l, Int.toNat_natCast, implies_true, true_and, takeD1_0, F20004, R20004, ↓reduceIte, dle_t, dlt_t, w64']
    refine ⟨fun _ => hp j hlt, ?_⟩
    show if ((dyIn (c :: cellsN 1 (el xs j))).getD 0 default).bool = true then _ else _
    cases hb : ((dyIn (c :: cellsN 1 (el xs j))).getD 0 default).bool
    · simp only [Bool.false_eq_true, if_false]
      refine round_next ⟨⟨xs, c, v, j + 1, rfl, by omega, hm, hp⟩, ?_, ?_⟩
      · show ((xs.length : Int) - ((j + 1 : Nat) : Int)).toNat < ((xs.length : Int) - (j : Int)).toNat
        omega
      · show ixLp dyIn 1 [.l xs, c, v, .i (xs.length : Int), .i ((j + 1 : Nat) : Int)] = ixLp dyIn 1 [.l xs, c, v, .i (xs.length : Int), .i (j : Int)]
        simp only [ixLp, Int.toNat_natCast]
        exact scan_next hlt hb
    · simp only [if_true]
      refine round_exit (by omega) ?_
      show ixLp dyIn 1 [.l xs, c, v, .i (xs.length : Int), .i (j : Int)] = _
      simp only [ixLp, Int.toNat_natCast]
      exact scan_hit hlt hb
  · have hj' : j = xs.length := by omega
    subst hj'
    simp (disch := omega) only [rt48_0, VT.ok, X.ds, X.d, Op2.ev, List.getD_cons_zero, List.getD_cons_succ, D.int_i, D.bool_b, Bool.false_eq_true, ↓reduceIte, dlt_f]
    refine round_exit (by omega) ?_
    show ixLp dyIn 1 [.l xs, c, v, .i (xs.length : Int), .i (xs.length : Int)] = _
    simp only [ixLp, Int.toNat_natCast]
    exact scan_end
theorem m48 : Meets Try.prog 48 S48 (R 48) (F 48) := by
  refine meets_of_vt (pre := R) (Φ := F) mixed (sgAt_all (P := Try.prog) (pre := R) (Φ := F) (l := sg48) (List.forall_mem_cons.2 ⟨Meets.at (pre := R) (Φ := F) m20004, (fun _ h => nomatch h)⟩)) Try.func48 b48 n48 (loops_n 1 k48 fun k hk => match k, hk with | 0, _ => loop_this lf48_0 loopM48_0) e48 fun ds hf hq => ?_
  obtain ⟨x, c, rfl, hx, _⟩ := fits2 hf.flat
  obtain ⟨xs, rfl, hm, _⟩ := wf_sl hx
  have hq : ∀ i, i < xs.length → (dpIn 32) (c :: cellsN 1 (el xs i)) := hq
  have hpre : ixPr (dpIn 32) 1 [.l xs, c, .i 0, .i (xs.length : Int), .i 0] := ⟨xs, c, .i 0, 0, rfl, by omega, hm, hq⟩
  simp only [vt48, VT.ok, Nd.holds, X.outs, X.ds, X.d, Op1.ev, Op2.ev, List.cons_append, List.nil_append, List.getD_cons_zero, List.getD_cons_succ, D.int_i, D.bool_b, D.lst_l, F14800, R14800, F48]
  refine ⟨fun _ => hpre, ?_⟩
  simp only [ixLp, ixFn, Int.toNat_zero, Nat.sub_zero, scan_fs, ixI, cL, List.getD_cons_zero, List.getD_cons_succ, D.lst_l]
  split <;> rfl
theorem m21 : Meets Try.prog 21 S21 (R 21) (F 21) := by
  refine meets_of_vt (pre := R) (Φ := F) mixed (sgAt_all (P := Try.prog) (pre := R) (Φ := F) (l := sg21) (List.forall_mem_cons.2 ⟨Meets.at (pre := R) (Φ := F) m34, (fun _ h => nomatch h)⟩)) Try.func21 b21 n21 (loops_n 0 k21 fun k hk => by omega) e21 fun ds hf hq => ?_
  obtain ⟨x, c, rfl, hx, _⟩ := fits2 hf.flat
  simp only [vt21, VT.ok, Nd.holds, X.outs, X.ds, X.d, Op2.ev, takeD_zero, takeD_cons, List.cons_append, List.nil_append, List.getD_cons_zero, List.getD_cons_succ, D.int_i, D.bool_b, and_true, F34, R34, F21, ixFn, cfFn, ixI_any]
  exact fun _ => hq
theorem m31 : Meets Try.prog 31 S31 (R 31) (F 31) := by
  refine meets_of_vt (pre := R) (Φ := F) mixed (sgAt_all (P := Try.prog) (pre := R) (Φ := F) (l := sg31) (List.forall_mem_cons.2 ⟨Meets.at (pre := R) (Φ := F) m48, (fun _ h => nomatch h)⟩)) Try.func31 b31 n31 (loops_n 0 k31 fun k hk => by omega) e31 fun ds hf hq => ?_
  obtain ⟨x, c, rfl, hx, _⟩ := fits2 hf.flat
  simp only [vt31, VT.ok, Nd.holds, X.outs, X.ds, X.d, Op2.ev, takeD_zero, takeD_cons, List.cons_append, List.nil_append, List.getD_cons_zero, List.getD_cons_succ, D.int_i, D.bool_b, and_true, F48, R48, F31, ixFn, cfFn, ixI_any]
  exact fun _ => hq
theorem cellsQ (q : Bx) : cellsN 4 (encQ q) = [.i q.1, .i q.2.1, .i q.2.2.1, .i q.2.2.2] := rfl
theorem rowB {l : List Bx} {i : Nat} (h : i < l.length) : el (l.map encQ) i = encQ (l.getD i z4) := row_get z4 h
end Go.Proofs.Ytoajdhghecjdlaa.rv
namespace Go.Proofs.Ytoajdhghecjdlaa.rv
set_option maxRecDepth 10000
open Go.RV
theorem rowPz {l : List Pt} {i : Nat} (h : i < l.length) : (l.map encP).getD i [] = encP (l.getD i pz) := row_get pz h
theorem rowQz {l : List Bx} {i : Nat} (h : i < l.length) : (l.map encQ).getD i [] = encQ (l.getD i z4) := row_get z4 h
theorem loopM13_0 : LoopMeets Try.prog F (R L13_0.key) L13_0 lb13_0 := by
  refine loop_meets (pre := R) mixed (sgAt_all (P := Try.prog) (pre := R) (Φ := F) (l := sg13) ((fun _ h => nomatch h))) (loops_n 0 lk13_0 fun k hk => by omega) L13_0 (fun ρ => ((ρ.getD 2 default).int - (ρ.getD 3 default).int).toNat) le13_0 fun ρ _ hq => ?_
  obtain ⟨v, l, j, rfl, hj, hm⟩ : prCk ρ := hq
  rw [maxLen_val] at hm
  by_cases hlt : j < l.length
  · simp (disch := omega) only [rt13_0, VT.ok, Nd.holds, X.ds, X.d, Op1.ev, Op2.ev, List.getD_cons_zero, List.getD_cons_succ, D.int_i, D.bool_b, D.lst_l, ite_b, ite_or, imin, imax, Int.toNat_natCast, List.length_map, implies_true, true_and, ↓reduceIte, dle_t, dlt_t, w64', rowPz, encP]
    show if badAt l j = true then _ else _
    cases hb : badAt l j
    · simp only [Bool.false_eq_true, if_false]
      refine round_next ⟨⟨v, l, j + 1, rfl, by omega, hm⟩, ?_, ?_⟩
      · show ((l.length : Int) - ((j + 1 : Nat) : Int)).toNat < ((l.length : Int) - (j : Int)).toNat
        omega
      · show lpCk [.i v, .l (l.map encP), .i (l.length : Int), .i ((j + 1 : Nat) : Int)] = lpCk [.i v, .l (l.map encP), .i (l.length : Int), .i (j : Int)]
        simp only [lpCk, map_decP, List.length_map, Int.toNat_natCast]
        exact scan_next hlt hb
    · simp only [if_true]
      refine round_exit (by omega) ?_
      show lpCk [.i v, .l (l.map encP), .i (l.length : Int), .i (j : Int)] = _
      simp only [lpCk, map_decP, List.length_map, Int.toNat_natCast]
      exact scan_hit hlt hb
  · have hj' : j = l.length := by omega
    subst hj'
    simp (disch := omega) only [rt13_0, VT.ok, X.ds, X.d, Op2.ev, List.getD_cons_zero, List.getD_cons_succ, D.int_i, D.bool_b, Bool.false_eq_true, ↓reduceIte, dlt_f]
    refine round_exit (by omega) ?_
    show lpCk [.i v, .l (l.map encP), .i (l.length : Int), .i (l.length : Int)] = _
    simp only [lpCk, map_decP, List.length_map, Int.toNat_natCast]
    exact scan_end
theorem arg_cond (w g : Int) : (decide (w < 0) || decide (268435456 < w) || decide (g < 0) || decide (1048576 < g)) = argBad w g := rfl
theorem m13 : Meets Try.prog 13 S13 (R 13) (F 13) := by
  refine meets_of_vt (pre := R) (Φ := F) mixed (sgAt_all (P := Try.prog) (pre := R) (Φ := F) (l := sg13) ((fun _ h => nomatch h))) Try.func13 b13 n13 (loops_n 1 k13 fun k hk => match k, hk with | 0, _ => loop_this lf13_0 loopM13_0) e13 fun ds _ hp => ?_
  obtain ⟨l, w, g, rfl, hm⟩ : chkPre ds := hp
  have hpre : prCk [.i 0, .l (l.map encP), .i (l.length : Int), .i 0] := ⟨0, l, 0, rfl, by omega, hm⟩
  have hl : lpCk [.i 0, .l (l.map encP), .i (l.length : Int), .i 0] = scanN (badAt l) (fun j => [.i 0, .i 1, .i (j : Int)]) (fun j => [.i 1, .i 0, .i (j : Int)]) l.length 0 := by
    simp only [lpCk, map_decP, List.length_map]; rfl
  have hc : chkD [.l (l.map encP), .i w, .i g] = [.i (cerr l w g)] := by simp only [chkD, map_decP]
  simp only [vt13, VT.ok, Nd.holds, X.outs, X.ds, X.d, Op1.ev, Op2.ev, List.cons_append, List.nil_append, List.getD_cons_zero, List.getD_cons_succ, D.int_i, D.bool_b, D.lst_l, ite_b, ite_or, List.length_map, F11300, R11300, F13, hl, hc]
  refine ⟨fun _ => hpre, ?_⟩
  rcases scan_any (p := badAt l) (hit := fun j => [.i 0, .i 1, .i (j : Int)]) (miss := fun j => [.i 1, .i 0, .i (j : Int)]) l.length with ⟨h1, j, _, _, _, h2⟩ | ⟨h1, h2⟩
  · rw [h2]
    simp [cerr, h1]
  · rw [h2]
    simp only [takeD_zero, takeD_cons, List.getD_cons_zero, List.getD_cons_succ, D.int_i, cerr, h1, Bool.false_eq_true, if_false, arg_cond, show ((1 : Int) == 0) = false from rfl]
    by_cases ha : argBad w g = true
    · simp only [if_pos ha]
    · simp only [if_neg ha]
      by_cases h64 : 64 < l.length
      · rw [if_pos h64, if_pos (decide_eq_true (by omega))]
      · rw [if_neg h64, if_neg (by rw [decide_eq_false (by omega)]; decide)]
theorem loopM14_0 : LoopMeets Try.prog F (R L14_0.key) L14_0 lb14_0 := by
  refine loop_meets (pre := R) mixed (sgAt_all (P := Try.prog) (pre := R) (Φ := F) (l := sg14) ((fun _ h => nomatch h))) (loops_n 0 lk14_0 fun k hk => by omega) L14_0 (fun ρ => ((ρ.getD 6 default).int - (ρ.getD 7 default).int).toNat) le14_0 fun ρ _ hp => ?_
  obtain ⟨w, g, x, y, low, l, j, acc, rfl, hI, hwb⟩ : prSh ρ := hp
  have hI' := hI
  obtain ⟨_, h64, hg0, hj, hx, hy, hlow, hacc⟩ := hI'
  by_cases hlt : j < l.length
  · have hgt : (l.map encP).getD j [] = encP (l.getD j pz) := row_get pz hlt
    obtain ⟨hp, hb⟩ := shInv_at hI hlt
    have hN := shInv_new hI hlt
    have hO := shInv_on hI hlt
    have hdr := drop_at pz l hlt
    generalize hpp : l.getD j pz = p at *
    obtain ⟨a, b⟩ := p
    have hp1 : 0 ≤ a ∧ a ≤ 1048576 := hp.1
    have hp2 : 0 ≤ b ∧ b ≤ 1048576 := hp.2
    have w1 : IntKind.i64.wrap (x + a) = x + a := w64 (by omega)
    have w2 : IntKind.i64.wrap (low + g) = low + g := w64 (by omega)
    have w3 : IntKind.i64.wrap (0 + a) = a := by rw [w64 (by omega)]; omega
    have w4 : IntKind.i64.wrap (low + g + b) = low + g + b := w64 (by omega)
    have w5 : IntKind.i64.wrap (a + g) = a + g := w64 (by omega)
    have w6 : IntKind.i64.wrap (0 + (a + g)) = a + g := by rw [w64 (by omega)]; omega
    have w7 : IntKind.i64.wrap (y + b) = y + b := w64 (by omega)
    have w8 : IntKind.i64.wrap (x + (a + g)) = x + a + g := by rw [w64 (by omega)]; omega
    have w9 : IntKind.i64.wrap (x + a + g) = x + a + g := w64 (by omega)
    have len : ∀ q : Bx, decide (((acc ++ [q]).length : Int) ≤ 4398046511104) = true := fun q => decide_eq_true (by simp; omega)
    simp (disch := omega) only [rt14_0, VT.ok, Nd.holds, X.ds, X.d, Op1.ev, Op2.ev, List.getD_cons_zero, List.getD_cons_succ, D.int_i, D.bool_b, D.lst_l, ite_b, ite_and, imax, Int.toNat_natCast, List.length_map, implies_true, true_and, ↓reduceIte, dle_t, dlt_t, w64', hgt, encP, w1, w2, w3, w4, w5, w6, w7, w8, encQ_eq, cat_map, len]
    have hz : (!(((j : Nat) : Int) == 0)) = decide (0 < (j : Int)) := by
      rw [Bool.eq_iff_iff]; simp; omega
    have hz2 : ((((j + 1 : Nat) : Int)) == 0) = false := by
      rw [beq_eq_false_iff_ne]; omega
    split
    · rename_i hc
      refine round_next ⟨⟨w, g, a + g, low + g, max (low + g) (low + g + b), l, j + 1, acc ++ [(0, low + g, a, low + g + b)], rfl, hN _, hwb⟩, by show ((l.length : Int) - ((j + 1 : Nat) : Int)).toNat < ((l.length : Int) - (j : Int)).toNat; omega, ?_⟩
      show lpSh [.i w, .i g, .i (a + g), .i (low + g), .i (max (low + g) (low + g + b)), .l (l.map encP), .i (l.length : Int), .i ((j + 1 : Nat) : Int), .l ((acc ++ [(0, low + g, a, low + g + b)]).map encQ)] = lpSh [.i w, .i g, .i x, .i y, .i low, .l (l.map encP), .i (l.length : Int), .i (j : Int), .l (acc.map encQ)]
      simp only [lpSh, map_decP, map_decQ, List.length_map, Int.toNat_natCast, hdr, shelF, hz, hz2, hc, if_true]
    · rename_i hc
      refine round_next ⟨⟨w, g, x + a + g, y, max low (y + b), l, j + 1, acc ++ [(x, y, x + a, y + b)], rfl, hO _, hwb⟩, by show ((l.length : Int) - ((j + 1 : Nat) : Int)).toNat < ((l.length : Int) - (j : Int)).toNat; omega, ?_⟩
      show lpSh [.i w, .i g, .i (x + a + g), .i y, .i (max low (y + b)), .l (l.map encP), .i (l.length : Int), .i ((j + 1 : Nat) : Int), .l ((acc ++ [(x, y, x + a, y + b)]).map encQ)] = lpSh [.i w, .i g, .i x, .i y, .i low, .l (l.map encP), .i (l.length : Int), .i (j : Int), .l (acc.map encQ)]
      simp only [lpSh, map_decP, map_decQ, List.length_map, Int.toNat_natCast, hdr, shelF, hz, hz2, hc, if_false, Bool.false_eq_true]
  · have hj : j = l.length := by omega
    subst hj
    simp (disch := omega) only [rt14_0, VT.ok, X.ds, X.d, Op2.ev, List.getD_cons_zero, List.getD_cons_succ, D.int_i, D.bool_b, Bool.false_eq_true, ↓reduceIte, dlt_f]
    refine round_exit (by omega) ?_
    show lpSh [.i w, .i g, .i x, .i y, .i low, .l (l.map encP), .i (l.length : Int), .i (l.length : Int), .l (acc.map encQ)] = _
    simp only [lpSh, map_decP, map_decQ, List.length_map, Int.toNat_natCast, List.drop_length, shelF, shOut]
theorem m14 : Meets Try.prog 14 S14 (R 14) (F 14) := by
  refine meets_of_vt (pre := R) (Φ := F) mixed (sgAt_all (P := Try.prog) (pre := R) (Φ := F) (l := sg14) ((fun _ h => nomatch h))) Try.func14 b14 n14 (loops_n 1 k14 fun k hk => match k, hk with | 0, _ => loop_this lf14_0 loopM14_0) e14 fun ds _ hp => ?_
  obtain ⟨l, w, g, rfl, h1, h2, h3, h4⟩ : shPre ds := hp
  have hpre : prSh [.i w, .i g, .i 0, .i 0, .i 0, .l (l.map encP), .i (l.length : Int), .i 0, .l []] := ⟨w, g, 0, 0, 0, l, 0, [], rfl, ⟨h1, h2, h3, by omega, by omega, by omega, by omega, rfl⟩, h4⟩
  have hl : lpSh [.i w, .i g, .i 0, .i 0, .i 0, .l (l.map encP), .i (l.length : Int), .i 0, .l []] = shOut l.length (shelF w g true 0 0 0 [] l) := by
    simp only [lpSh, map_decP, List.length_map]; rfl
  simp only [vt14, VT.ok, Nd.holds, X.outs, X.ds, X.d, Op1.ev, takeD_zero, takeD_cons, List.cons_append, List.nil_append, List.getD_cons_zero, List.getD_cons_succ, D.bool_b, D.lst_l, List.length_map, F11400, R11400, F14, hl, shOut, shD, map_decP]
  exact ⟨fun _ => hpre, rfl⟩
theorem loopM15_0 : LoopMeets Try.prog F (R L15_0.key) L15_0 lb15_0 := by
  refine loop_meets (pre := R) mixed (sgAt_all (P := Try.prog) (pre := R) (Φ := F) (l := sg15) ((fun _ h => nomatch h))) (loops_n 0 lk15_0 fun k hk => by omega) L15_0 (fun ρ => ((ρ.getD 2 default).int - (ρ.getD 3 default).int).toNat) le15_0 fun ρ _ hp => ?_
  obtain ⟨n, l, j, rfl, hj, hm⟩ : prEx ρ := hp
  rw [maxLen_val] at hm
  by_cases hlt : j < l.length
  · have hdr := drop_at z4 l hlt
    simp (disch := omega) only [rt15_0, VT.ok, Nd.holds, X.ds, X.d, Op1.ev, Op2.ev, List.getD_cons_zero, List.getD_cons_succ, D.int_i, D.bool_b, D.lst_l, imax, Int.toNat_natCast, List.length_map, implies_true, true_and, ↓reduceIte, dle_t, dlt_t, w64', rowQz, encQ]
    refine round_next ⟨⟨ext1 n (l.getD j z4), l, j + 1, rfl, by omega, hm⟩, by show ((l.length : Int) - ((j + 1 : Nat) : Int)).toNat < ((l.length : Int) - (j : Int)).toNat; omega, ?_⟩
    show lpEx [.i (ext1 n (l.getD j z4)), .l (l.map encQ), .i (l.length : Int), .i ((j + 1 : Nat) : Int)] = lpEx [.i n, .l (l.map encQ), .i (l.length : Int), .i (j : Int)]
    simp only [lpEx, map_decQ, List.length_map, Int.toNat_natCast, hdr, List.foldl_cons]
  · have hj : j = l.length := by omega
    subst hj
    simp (disch := omega) only [rt15_0, VT.ok, X.ds, X.d, Op2.ev, List.getD_cons_zero, List.getD_cons_succ, D.int_i, D.bool_b, Bool.false_eq_true, ↓reduceIte, dlt_f]
    refine round_exit (by omega) ?_
    show lpEx [.i n, .l (l.map encQ), .i (l.length : Int), .i (l.length : Int)] = _
    simp only [lpEx, map_decQ, List.length_map, Int.toNat_natCast, List.drop_length, List.foldl_nil]
theorem m15 : Meets Try.prog 15 S15 (R 15) (F 15) := by
  refine meets_of_vt (pre := R) (Φ := F) mixed (sgAt_all (P := Try.prog) (pre := R) (Φ := F) (l := sg15) ((fun _ h => nomatch h))) Try.func15 b15 n15 (loops_n 1 k15 fun k hk => match k, hk with | 0, _ => loop_this lf15_0 loopM15_0) e15 fun ds _ hp => ?_
  obtain ⟨l, rfl, hm⟩ : extPre ds := hp
  have hpre : prEx [.i 0, .l (l.map encQ), .i (l.length : Int), .i 0] := ⟨0, l, 0, rfl, by omega, hm⟩
  have hl : lpEx [.i 0, .l (l.map encQ), .i (l.length : Int), .i 0] = [.i 0, .i (exts l), .i (l.length : Int)] := by
    simp only [lpEx, map_decQ, List.length_map]; rfl
  simp only [vt15, VT.ok, Nd.holds, X.outs, X.ds, X.d, Op1.ev, takeD_zero, takeD_cons, List.cons_append, List.nil_append, List.getD_cons_zero, List.getD_cons_succ, D.bool_b, D.lst_l, List.length_map, and_true, F11500, R11500, F15, hl, extD, map_decQ]
  exact fun _ => hpre
end Go.Proofs.Ytoajdhghecjdlaa.rv
namespace Go.Proofs.Ytoajdhghecjdlaa.rv
set_option maxRecDepth 10000
open Go.RV
theorem nat_z (j : Nat) : (((j : Nat) : Int) == 0) = (j == 0) := by
  rw [Bool.eq_iff_iff]; simp
theorem loopM6_0 : LoopMeets Try.prog F (R L6_0.key) L6_0 lb6_0 := by
  refine loop_meets (pre := R) mixed (sgAt_all (P := Try.prog) (pre := R) (Φ := F) (l := sg6) (List.forall_mem_cons.2 ⟨Meets.at (pre := R) (Φ := F) m13, List.forall_mem_cons.2 ⟨Meets.at (pre := R) (Φ := F) m14, List.forall_mem_cons.2 ⟨Meets.at (pre := R) (Φ := F) m15, (fun _ h => nomatch h)⟩⟩⟩)) (loops_n 0 lk6_0 fun k hk => by omega) L6_0 (fun ρ => ((ρ.getD 5 default).int - (ρ.getD 6 default).int).toNat) le6_0 fun ρ _ hp => ?_
  obtain ⟨l, g, w, j, b, rfl, hI⟩ : prBe ρ := hp
  have hI' := hI
  obtain ⟨hs, h64, hg0, hj, hw0, hb64⟩ := hI'
  by_cases hlt : j < l.length
  · have hgt : (l.map encP).getD j [] = encP (l.getD j pz) := row_get pz hlt
    have hdr := drop_at pz l hlt
    have hat := beInv_at hI hlt
    have w1 : IntKind.i64.wrap (g + (l.getD j pz).1) = g + (l.getD j pz).1 := w64 (by omega)
    have w2 : IntKind.i64.wrap (w + (g + (l.getD j pz).1)) = w + (g + (l.getD j pz).1) := w64 (by omega)
    have hsh : ∀ v, shD [.l (l.map encP), .i v, .i g] = [.l ((shel v g l).map encQ)] := fun v => by simp only [shD, map_decP]
    have hex : ∀ q : List Bx, extD [.l (q.map encQ)] = [.i (exts q)] := fun q => by simp only [extD, map_decQ]
    simp (disch := omega) only [rt6_0, VT.ok, Nd.holds, X.outs, X.ds, X.d, Op1.ev, Op2.ev, takeD_zero, takeD_cons, List.cons_append, List.nil_append, List.getD_cons_zero, List.getD_cons_succ, D.int_i, D.bool_b, D.lst_l, ite_b, ite_or, Int.toNat_natCast, List.length_map, implies_true, true_and, F14, R14, F15, R15, ↓reduceIte, dle_t, dlt_t, w64', hgt, encP, w1, w2, hsh, hex, nat_z]
    have hl64 : (shel (w + (g + (l.getD j pz).1)) g l).length ≤ 64 := by rw [shel_len]; exact h64
    have hml : (shel (w + (g + (l.getD j pz).1)) g l).length ≤ maxLen := by rw [maxLen_val]; omega
    have hbl : b.length ≤ maxLen := by rw [maxLen_val]; omega
    refine ⟨fun _ => ⟨l, _, g, rfl, hs, h64, hg0, by omega⟩, fun _ => ⟨_, rfl, hml⟩, fun _ => ⟨_, rfl, hbl⟩, ?_⟩
    have key : ∀ b' : List Bx, b'.length ≤ 64 → (if (j == 0) = true ∨ exts (shel (w + (g + (l.getD j pz).1)) g l) < exts b then shel (w + (g + (l.getD j pz).1)) g l else b) = b' → RoundOk F (R L6_0.key) (fun ρ => ((ρ.getD 5 default).int - (ρ.getD 6 default).int).toNat) L6_0 [.l (l.map encP), .i g, .l (b.map encQ), .i w, .l (l.map encP), .i (l.length : Int), .i (j : Int)] [.i (-1), .l (b'.map encQ), .i (w + (g + (l.getD j pz).1)), .i ((j + 1 : Nat) : Int)] := by
      intro b' hb' he
      refine round_next ⟨⟨l, g, _, j + 1, b', rfl, beInv_next hI hlt hb'⟩, ?_, ?_⟩
      · show ((l.length : Int) - ((j + 1 : Nat) : Int)).toNat < ((l.length : Int) - (j : Int)).toNat
        omega
      · show lpBe [.l (l.map encP), .i g, .l (b'.map encQ), .i (w + (g + (l.getD j pz).1)), .l (l.map encP), .i (l.length : Int), .i ((j + 1 : Nat) : Int)] = lpBe [.l (l.map encP), .i g, .l (b.map encQ), .i w, .l (l.map encP), .i (l.length : Int), .i (j : Int)]
        simp only [lpBe, map_decP, map_decQ, Int.toNat_natCast, hdr, bstF, he]
    split
    · rename_i hc
      exact key _ hl64 (if_pos (by simpa using hc))
    · rename_i hc
      exact key _ hb64 (if_neg (by simpa using hc))
  · have hj : j = l.length := by omega
    subst hj
    simp (disch := omega) only [rt6_0, VT.ok, X.ds, X.d, Op2.ev, List.getD_cons_zero, List.getD_cons_succ, D.int_i, D.bool_b, Bool.false_eq_true, ↓reduceIte, dlt_f]
    refine round_exit (by omega) ?_
    show lpBe [.l (l.map encP), .i g, .l (b.map encQ), .i w, .l (l.map encP), .i (l.length : Int), .i (l.length : Int)] = _
    simp only [lpBe, map_decP, map_decQ, Int.toNat_natCast, List.drop_length, bstF]
theorem m6 : Meets Try.prog 6 S6 (R 6) (F 6) := by
  refine meets_of_vt (pre := R) (Φ := F) mixed (sgAt_all (P := Try.prog) (pre := R) (Φ := F) (l := sg6) (List.forall_mem_cons.2 ⟨Meets.at (pre := R) (Φ := F) m13, List.forall_mem_cons.2 ⟨Meets.at (pre := R) (Φ := F) m14, List.forall_mem_cons.2 ⟨Meets.at (pre := R) (Φ := F) m15, (fun _ h => nomatch h)⟩⟩⟩)) Try.func6 b6 n6 (loops_n 1 k6 fun k hk => match k, hk with | 0, _ => loop_this lf6_0 loopM6_0) e6 fun ds _ hp => ?_
  obtain ⟨l, g, rfl, hm⟩ : bestPre ds := hp
  have hc : chkD [.l (l.map encP), .i 0, .i g] = [.i (cerr l 0 g)] := by simp only [chkD, map_decP]
  have hl : ∀ v, lpBe [.l (l.map encP), .i g, .l [], .i v, .l (l.map encP), .i (l.length : Int), .i 0] = [.i 0, .l ((bstF l g [] v 0 l).1.map encQ), .i (bstF l g [] v 0 l).2, .i (l.length : Int)] := by
    intro v
    simp only [lpBe, map_decP]; rfl
  simp only [vt6, VT.ok, Nd.holds, X.outs, X.ds, X.d, Op1.ev, Op2.ev, takeD_zero, takeD_cons, List.cons_append, List.nil_append, List.getD_cons_zero, List.getD_cons_succ, D.int_i, D.bool_b, D.lst_l, List.length_map, F13, R13, F10600, R10600, F6, hc, hl, bestD, map_decP]
  refine ⟨fun _ => ⟨l, 0, g, rfl, hm⟩, ?_⟩
  by_cases h0 : cerr l 0 g = 0
  · have hb : (!(cerr l 0 g == 0)) = false := by simp [h0]
    obtain ⟨o1, o2, o3, o4⟩ := cerr_ok h0
    have w1 : IntKind.i64.wrap (0 - g) = -g := by rw [w64 (by omega)]; omega
    simp only [h0, if_true, w1]
    exact ⟨fun _ => ⟨l, g, -g, 0, [], rfl, o1, o4, o3, by omega, by omega, by simp⟩, rfl⟩
  · have hb : (!(cerr l 0 g == 0)) = true := by simp [h0]
    simp only [hb, if_true, h0, if_false]
    rfl
end Go.Proofs.Ytoajdhghecjdlaa.rv
namespace Go.Proofs.Ytoajdhghecjdlaa.rv
set_option maxRecDepth 10000
open Go.RV
theorem fn95_eq (a b : D) : fn95 [a, b] = [.b (!ptB a.int b.int)] := by
  simp only [fn95, vt95, VT.val, X.outs, X.ds, X.d, Op1.ev, takeD_zero, takeD_cons, List.cons_append, List.nil_append, List.getD_cons_zero, List.getD_cons_succ, D.bool_b, show T95 30 = fn30 from rfl, fn30_eq]
theorem m20027 : Meets Try.prog 20027 S20027 (R 20027) (F 20027) := by
  refine meets_dyn (by decide) rfl fun d ds hf hp => ?_
  obtain ⟨a, b, e⟩ : dpPt 95 (d :: ds) := hp
  cases e
  exact ⟨95, [], [], S95, _, fn95, rfl, by decide, m95, rfl, rfl, trivial, fn95_eq a b⟩
theorem fn36_eq (a : D) : fn36 [a] = [.b (decide (a.int < 32) || decide (126 < a.int))] := by
  simp only [fn36, vt36, VT.val, X.ds, X.d, Op2.ev, List.getD_cons_zero, D.int_i, D.bool_b, ite_b, ite_or]
theorem m20006 : Meets Try.prog 20006 S20006 (R 20006) (F 20006) := by
  refine meets_dyn (by decide) rfl fun d ds hf hp => ?_
  obtain ⟨a, e⟩ : dpBy 36 (d :: ds) := hp
  cases e
  exact ⟨36, [], [], S36, _, fn36, rfl, by decide, m36, rfl, rfl, trivial, fn36_eq a⟩
theorem loopM96_0 : LoopMeets Try.prog F (R L96_0.key) L96_0 lb96_0 := by
  refine loop_meets (pre := R) mixed (sgAt_all (P := Try.prog) (pre := R) (Φ := F) (l := sg96) (List.forall_mem_cons.2 ⟨Meets.at (pre := R) (Φ := F) m20027, (fun _ h => nomatch h)⟩)) (loops_n 0 lk96_0 fun k hk => by omega) L96_0 (fun ρ => ((ρ.getD 3 default).int - (ρ.getD 4 default).int).toNat) le96_0 fun ρ _ hq => ?_
  obtain ⟨xs, c, v, j, rfl, hj, hm, hp⟩ : ixPr (dpPt 95) 2 ρ := hq
  rw [maxLen_val] at hm
  by_cases hlt : j < xs.length
  · simp (disch := omega) only [rt96_0, VT.ok, Nd.holds, X.outs, X.ds, X.d, Op1.ev, Op2.ev, List.cons_append, List.nil_append, List.getD_cons_zero, List.getD_cons_succ, D.int_i, D.bool_b, D.lst_l, Int.toNat_natCast, implies_true, true_and, takeD1_0, F20027, R20027, ↓reduceIte, dle_t, dlt_t, w64']
    refine ⟨fun _ => hp j hlt, ?_⟩
    show if ((dyPt (c :: cellsN 2 (el xs j))).getD 0 default).bool = true then _ else _
    cases hb : ((dyPt (c :: cellsN 2 (el xs j))).getD 0 default).bool
    · simp only [Bool.false_eq_true, if_false]
      refine round_next ⟨⟨xs, c, v, j + 1, rfl, by omega, hm, hp⟩, ?_, ?_⟩
      · show ((xs.length : Int) - ((j + 1 : Nat) : Int)).toNat < ((xs.length : Int) - (j : Int)).toNat
        omega
      · show ixLp dyPt 2 [.l xs, c, v, .i (xs.length : Int), .i ((j + 1 : Nat) : Int)] = ixLp dyPt 2 [.l xs, c, v, .i (xs.length : Int), .i (j : Int)]
        simp only [ixLp, Int.toNat_natCast]
        exact scan_next hlt hb
    · simp only [if_true]
      refine round_exit (by omega) ?_
      show ixLp dyPt 2 [.l xs, c, v, .i (xs.length : Int), .i (j : Int)] = _
      simp only [ixLp, Int.toNat_natCast]
      exact scan_hit hlt hb
  · have hj' : j = xs.length := by omega
    subst hj'
    simp (disch := omega) only [rt96_0, VT.ok, X.ds, X.d, Op2.ev, List.getD_cons_zero, List.getD_cons_succ, D.int_i, D.bool_b, Bool.false_eq_true, ↓reduceIte, dlt_f]
    refine round_exit (by omega) ?_
    show ixLp dyPt 2 [.l xs, c, v, .i (xs.length : Int), .i (xs.length : Int)] = _
    simp only [ixLp, Int.toNat_natCast]
    exact scan_end
theorem m96 : Meets Try.prog 96 S96 (R 96) (F 96) := by
  refine meets_of_vt (pre := R) (Φ := F) mixed (sgAt_all (P := Try.prog) (pre := R) (Φ := F) (l := sg96) (List.forall_mem_cons.2 ⟨Meets.at (pre := R) (Φ := F) m20027, (fun _ h => nomatch h)⟩)) Try.func96 b96 n96 (loops_n 1 k96 fun k hk => match k, hk with | 0, _ => loop_this lf96_0 loopM96_0) e96 fun ds hf hq => ?_
  obtain ⟨x, c, rfl, hx, _⟩ := fits2 hf.flat
  obtain ⟨xs, rfl, hm, _⟩ := wf_sl hx
  have hq : ∀ i, i < xs.length → (dpPt 95) (c :: cellsN 2 (el xs i)) := hq
  have hpre : ixPr (dpPt 95) 2 [.l xs, c, .i 0, .i (xs.length : Int), .i 0] := ⟨xs, c, .i 0, 0, rfl, by omega, hm, hq⟩
  simp only [vt96, VT.ok, Nd.holds, X.outs, X.ds, X.d, Op1.ev, Op2.ev, List.cons_append, List.nil_append, List.getD_cons_zero, List.getD_cons_succ, D.int_i, D.bool_b, D.lst_l, F19600, R19600, F96]
  refine ⟨fun _ => hpre, ?_⟩
  simp only [ixLp, ixFn, Int.toNat_zero, Nat.sub_zero, scan_fs, ixI, cL, List.getD_cons_zero, List.getD_cons_succ, D.lst_l]
  split <;> rfl
theorem loopM49_0 : LoopMeets Try.prog F (R L49_0.key) L49_0 lb49_0 := by
  refine loop_meets (pre := R) mixed (sgAt_all (P := Try.prog) (pre := R) (Φ := F) (l := sg49) (List.forall_mem_cons.2 ⟨Meets.at (pre := R) (Φ := F) m20006, (fun _ h => nomatch h)⟩)) (loops_n 0 lk49_0 fun k hk => by omega) L49_0 (fun ρ => ((ρ.getD 3 default).int - (ρ.getD 4 default).int).toNat) le49_0 fun ρ _ hq => ?_
  obtain ⟨xs, c, v, j, rfl, hj, hm, hp⟩ : ixPr (dpBy 36) 1 ρ := hq
  rw [maxLen_val] at hm
  by_cases hlt : j < xs.length
  · simp (disch := omega) only [rt49_0, VT.ok, Nd.holds, X.outs, X.ds, X.d, Op1.ev, Op2.ev, List.cons_append, List.nil_append, List.getD_cons_zero, List.getD_cons_succ, D.int_i, D.bool_b, D.lst_l, Int.toNat_natCast, implies_true, true_and, takeD1_0, F20006, R20006, ↓reduceIte, dle_t, dlt_t, w64']
    refine ⟨fun _ => hp j hlt, ?_⟩
    show if ((dyBy (c :: cellsN 1 (el xs j))).getD 0 default).bool = true then _ else _
    cases hb : ((dyBy (c :: cellsN 1 (el xs j))).getD 0 default).bool
    · simp only [Bool.false_eq_true, if_false]
      refine round_next ⟨⟨xs, c, v, j + 1, rfl, by omega, hm, hp⟩, ?_, ?_⟩
      · show ((xs.length : Int) - ((j + 1 : Nat) : Int)).toNat < ((xs.length : Int) - (j : Int)).toNat
        omega
      · show ixLp dyBy 1 [.l xs, c, v, .i (xs.length : Int), .i ((j + 1 : Nat) : Int)] = ixLp dyBy 1 [.l xs, c, v, .i (xs.length : Int), .i (j : Int)]
        simp only [ixLp, Int.toNat_natCast]
        exact scan_next hlt hb
    · simp only [if_true]
      refine round_exit (by omega) ?_
      show ixLp dyBy 1 [.l xs, c, v, .i (xs.length : Int), .i (j : Int)] = _
      simp only [ixLp, Int.toNat_natCast]
      exact scan_hit hlt hb
  · have hj' : j = xs.length := by omega
    subst hj'
    simp (disch := omega) only [rt49_0, VT.ok, X.ds, X.d, Op2.ev, List.getD_cons_zero, List.getD_cons_succ, D.int_i, D.bool_b, Bool.false_eq_true, ↓reduceIte, dlt_f]
    refine round_exit (by omega) ?_
    show ixLp dyBy 1 [.l xs, c, v, .i (xs.length : Int), .i (xs.length : Int)] = _
    simp only [ixLp, Int.toNat_natCast]
    exact scan_end
theorem m49 : Meets Try.prog 49 S49 (R 49) (F 49) := by
  refine meets_of_vt (pre := R) (Φ := F) mixed (sgAt_all (P := Try.prog) (pre := R) (Φ := F) (l := sg49) (List.forall_mem_cons.2 ⟨Meets.at (pre := R) (Φ := F) m20006, (fun _ h => nomatch h)⟩)) Try.func49 b49 n49 (loops_n 1 k49 fun k hk => match k, hk with | 0, _ => loop_this lf49_0 loopM49_0) e49 fun ds hf hq => ?_
  obtain ⟨x, c, rfl, hx, _⟩ := fits2 hf.flat
  obtain ⟨xs, rfl, hm, _⟩ := wf_sl hx
  have hq : ∀ i, i < xs.length → (dpBy 36) (c :: cellsN 1 (el xs i)) := hq
  have hpre : ixPr (dpBy 36) 1 [.l xs, c, .i 0, .i (xs.length : Int), .i 0] := ⟨xs, c, .i 0, 0, rfl, by omega, hm, hq⟩
  simp only [vt49, VT.ok, Nd.holds, X.outs, X.ds, X.d, Op1.ev, Op2.ev, List.cons_append, List.nil_append, List.getD_cons_zero, List.getD_cons_succ, D.int_i, D.bool_b, D.lst_l, F14900, R14900, F49]
  refine ⟨fun _ => hpre, ?_⟩
  simp only [ixLp, ixFn, Int.toNat_zero, Nat.sub_zero, scan_fs, ixI, cL, List.getD_cons_zero, List.getD_cons_succ, D.lst_l]
  split <;> rfl
theorem m94 : Meets Try.prog 94 S94 (R 94) (F 94) := by
  refine meets_of_vt (pre := R) (Φ := F) mixed (sgAt_all (P := Try.prog) (pre := R) (Φ := F) (l := sg94) (List.forall_mem_cons.2 ⟨Meets.at (pre := R) (Φ := F) m96, (fun _ h => nomatch h)⟩)) Try.func94 b94 n94 (loops_n 0 k94 fun k hk => by omega) e94 fun ds hf hq => ?_
  obtain ⟨x, c, rfl, hx, _⟩ := fits2 hf.flat
  simp only [vt94, VT.ok, Nd.holds, X.outs, X.ds, X.d, Op2.ev, takeD_zero, takeD_cons, List.cons_append, List.nil_append, List.getD_cons_zero, List.getD_cons_succ, D.int_i, D.bool_b, and_true, F96, R96, F94, ixFn, cfFn, ixI_any]
  exact fun _ => hq
theorem m35 : Meets Try.prog 35 S35 (R 35) (F 35) := by
  refine meets_of_vt (pre := R) (Φ := F) mixed (sgAt_all (P := Try.prog) (pre := R) (Φ := F) (l := sg35) (List.forall_mem_cons.2 ⟨Meets.at (pre := R) (Φ := F) m49, (fun _ h => nomatch h)⟩)) Try.func35 b35 n35 (loops_n 0 k35 fun k hk => by omega) e35 fun ds hf hq => ?_
  obtain ⟨x, c, rfl, hx, _⟩ := fits2 hf.flat
  simp only [vt35, VT.ok, Nd.holds, X.outs, X.ds, X.d, Op2.ev, takeD_zero, takeD_cons, List.cons_append, List.nil_append, List.getD_cons_zero, List.getD_cons_succ, D.int_i, D.bool_b, and_true, F49, R49, F35, ixFn, cfFn, ixI_any]
  exact fun _ => hq
theorem loopM92_0 : LoopMeets Try.prog F (R L92_0.key) L92_0 lb92_0 := by
  refine loop_meets (pre := R) mixed (sgAt_all (P := Try.prog) (pre := R) (Φ := F) (l := sg92) ((fun _ h => nomatch h))) (loops_n 0 lk92_0 fun k hk => by omega) L92_0 (fun ρ => (((n1 (ρ.getD 0 default).lst.length : Nat) : Int) - (ρ.getD 2 default).int).toNat) le92_0 fun ρ _ hq => ?_
  obtain ⟨xs, v, j, rfl, hj, hm⟩ : prDis ρ := hq
  rw [maxLen_val] at hm
  have hn : n1 xs.length = max xs.length 1 := rfl
  by_cases hlt : j < n1 xs.length
  · simp (disch := omega) only [rt92_0, VT.ok, Nd.holds, X.ds, X.d, Op1.ev, Op2.ev, List.getD_cons_zero, List.getD_cons_succ, D.int_i, D.bool_b, D.lst_l, ite_b, ite_and, Int.toNat_natCast, implies_true, true_and, ↓reduceIte, dle_t, dlt_t, w64', pred_nat]
    have e : ((pX xs (j - 1) == pX xs j) && (pY xs (j - 1) == pY xs j)) = dupP xs j := by
      unfold dupP
      rw [decide_eq_true (by omega), Bool.true_and, Bool.beq_comm (a := pX xs (j - 1)), Bool.beq_comm (a := pY xs (j - 1))]
    show if ((pX xs (j - 1) == pX xs j) && (pY xs (j - 1) == pY xs j)) = true then _ else _
    rw [e]
    show if dupP xs j = true then _ else _
    cases hb : dupP xs j
    · simp only [Bool.false_eq_true, if_false]
      refine round_next ⟨⟨xs, v, j + 1, rfl, by omega, hm⟩, ?_, ?_⟩
      · show ((n1 xs.length : Int) - ((j + 1 : Nat) : Int)).toNat < ((n1 xs.length : Int) - (j : Int)).toNat
        omega
      · show lpDis [.l xs, v, .i ((j + 1 : Nat) : Int)] = lpDis [.l xs, v, .i (j : Int)]
        simp only [lpDis, Int.toNat_natCast]
        exact scan_next hlt hb
    · simp only [if_true]
      refine round_exit (by omega) ?_
      show lpDis [.l xs, v, .i (j : Int)] = _
      simp only [lpDis, Int.toNat_natCast]
      exact scan_hit hlt hb
  · have hj' : j = n1 xs.length := by omega
    subst hj'
    simp (disch := omega) only [rt92_0, VT.ok, X.ds, X.d, Op1.ev, Op2.ev, List.getD_cons_zero, List.getD_cons_succ, D.int_i, D.bool_b, D.lst_l, Bool.false_eq_true, ↓reduceIte, dlt_f]
    refine round_exit (by omega) ?_
    show lpDis [.l xs, v, .i (n1 xs.length : Int)] = _
    simp only [lpDis, Int.toNat_natCast]
    exact scan_end
theorem m92 : Meets Try.prog 92 S92 (R 92) (F 92) := by
  refine meets_of_vt (pre := R) (Φ := F) mixed (sgAt_all (P := Try.prog) (pre := R) (Φ := F) (l := sg92) ((fun _ h => nomatch h))) Try.func92 b92 n92 (loops_n 1 k92 fun k hk => match k, hk with | 0, _ => loop_this lf92_0 loopM92_0) e92 fun ds hf _ => ?_
  obtain ⟨x, rfl, hx⟩ := fits1 hf.flat
  obtain ⟨xs, rfl, hm, _⟩ := wf_sl hx
  have hpre : prDis [.l xs, .b false, .i 1] := ⟨xs, _, 1, rfl, ⟨by omega, (by unfold n1; omega)⟩, hm⟩
  simp only [vt92, VT.ok, Nd.holds, X.outs, X.ds, X.d, Op2.ev, List.cons_append, List.nil_append, List.getD_cons_zero, List.getD_cons_succ, D.int_i, D.bool_b, F19200, R19200, F92]
  refine ⟨fun _ => hpre, ?_⟩
  simp only [lpDis, disD, cL, List.getD_cons_zero, D.lst_l]
  have hn : n1 xs.length = max xs.length 1 := rfl
  have h0 : ∀ j, j < 1 → dupP xs j = false := fun j hj => by rw [show j = 0 by omega]; rfl
  rw [show Int.toNat 1 = 1 from rfl]
  rcases any_scan (p := dupP xs) (hit := fun j => [D.i 0, .b false, .i (j : Int)]) (miss := fun j => [D.i 1, .b false, .i (j : Int)]) (n := n1 xs.length) (i := 1) h0 (by omega) with ⟨h1, j, h2, h3, h4, _, h6⟩ | ⟨h1, h2⟩
  · have hj : j < xs.length := by omega
    have e : anyN (dupP xs) xs.length = true := anyN_iff.2 ⟨j, hj, h4⟩
    rw [h6, e]; rfl
  · have e : anyN (dupP xs) xs.length = false := anyN_false.2 fun j hj => anyN_false.1 h1 j (by omega)
    rw [h2, e]; rfl
theorem m93 : Meets Try.prog 93 S93 (R 93) (F 93) := by
  refine meets_of_vt (pre := R) (Φ := F) mixed (sgAt_all (P := Try.prog) (pre := R) (Φ := F) (l := sg93) (List.forall_mem_cons.2 ⟨Meets.at (pre := R) (Φ := F) m94, (fun _ h => nomatch h)⟩)) Try.func93 b93 n93 (loops_n 0 k93 fun k hk => by omega) e93 fun ds hf _ => ?_
  obtain ⟨x, rfl, hx⟩ := fits1 hf.flat
  obtain ⟨xs, rfl, hm, _⟩ := wf_sl hx
  simp only [vt93, VT.ok, Nd.holds, X.outs, X.ds, X.d, Op1.ev, Op2.ev, List.cons_append, List.nil_append, List.getD_cons_zero, List.getD_cons_succ, D.int_i, D.bool_b, D.lst_l, ite_b, ite_and, takeD1_0, F94, R94, F93]
  exact ⟨fun _ i _ => ⟨_, _, rfl⟩, rfl⟩
theorem m91 : Meets Try.prog 91 S91 (R 91) (F 91) := by
  refine meets_of_vt (pre := R) (Φ := F) mixed (sgAt_all (P := Try.prog) (pre := R) (Φ := F) (l := sg91) (List.forall_mem_cons.2 ⟨Meets.at (pre := R) (Φ := F) m92, List.forall_mem_cons.2 ⟨Meets.at (pre := R) (Φ := F) m93, (fun _ h => nomatch h)⟩⟩)) Try.func91 b91 n91 (loops_n 0 k91 fun k hk => by omega) e91 fun ds hf _ => ?_
  obtain ⟨x, rfl, hx⟩ := fits1 hf.flat
  obtain ⟨xs, rfl, hm, _⟩ := wf_sl hx
  simp only [vt91, VT.ok, Nd.holds, X.outs, X.ds, X.d, takeD_zero, takeD_cons, List.cons_append, List.nil_append, List.getD_cons_zero, List.getD_cons_succ, D.bool_b, D.lst_l, ite_b, ite_and, implies_true, and_true, F92, R92, F93, R93, F91, disD, ptsD, pathD, cL, path_two]
theorem cells2 {xs : List (List D)} (h : ptsy xs) (h0 : 0 < xs.length) : (xs.getD (Int.toNat 0) []).getD 0 default = .i (pX xs 0) ∧ (xs.getD (Int.toNat 0) []).getD 1 default = .i (pY xs 0) := h 0 h0
theorem loopM90_0 : LoopMeets Try.prog F (R L90_0.key) L90_0 lb90_0 := by
  refine loop_meets (pre := R) mixed (sgAt_all (P := Try.prog) (pre := R) (Φ := F) (l := sg90) (List.forall_mem_cons.2 ⟨Meets.at (pre := R) (Φ := F) m91, (fun _ h => nomatch h)⟩)) (loops_n 0 lk90_0 fun k hk => by omega) L90_0 (fun ρ => ((ρ.getD 1 default).int - (ρ.getD 2 default).int).toNat) le90_0 fun ρ _ hq => ?_
  obtain ⟨xs, a, b, c, d, j, rfl, hj, hm⟩ : prBn ρ := hq
  rw [maxLen_val] at hm
  by_cases hlt : j < xs.length
  · simp (disch := omega) only [rt90_0, VT.ok, Nd.holds, X.ds, X.d, Op1.ev, Op2.ev, List.getD_cons_zero, List.getD_cons_succ, D.int_i, D.bool_b, D.lst_l, imin, imax, Int.toNat_natCast, implies_true, true_and, ↓reduceIte, dle_t, dlt_t, w64']
    refine round_next ⟨⟨xs, _, _, _, _, j + 1, rfl, by omega, hm⟩, ?_, ?_⟩
    · show ((xs.length : Int) - ((j + 1 : Nat) : Int)).toNat < ((xs.length : Int) - (j : Int)).toNat
      omega
    · show lpBn [.l xs, .i (xs.length : Int), .i ((j + 1 : Nat) : Int), .i (min a (pX xs j)), .i (min b (pY xs j)), .i (max c (pX xs j)), .i (max d (pY xs j))] = lpBn [.l xs, .i (xs.length : Int), .i (j : Int), .i a, .i b, .i c, .i d]
      simp only [lpBn, Int.toNat_natCast, growN]
      rw [fold_next (i := j) hlt]
      rfl
  · have hj' : j = xs.length := by omega
    subst hj'
    simp (disch := omega) only [rt90_0, VT.ok, X.ds, X.d, Op2.ev, List.getD_cons_zero, List.getD_cons_succ, D.int_i, D.bool_b, Bool.false_eq_true, ↓reduceIte, dlt_f]
    refine round_exit (by omega) ?_
    show lpBn [.l xs, .i (xs.length : Int), .i (xs.length : Int), .i a, .i b, .i c, .i d] = _
    simp only [lpBn, Int.toNat_natCast, growN, fold_end]
    rfl
theorem m90 : Meets Try.prog 90 S90 (R 90) (F 90) := by
  refine meets_of_vt (pre := R) (Φ := F) mixed (sgAt_all (P := Try.prog) (pre := R) (Φ := F) (l := sg90) (List.forall_mem_cons.2 ⟨Meets.at (pre := R) (Φ := F) m91, (fun _ h => nomatch h)⟩)) Try.func90 b90 n90 (loops_n 1 k90 fun k hk => match k, hk with | 0, _ => loop_this lf90_0 loopM90_0) e90 fun ds hf _ => ?_
  obtain ⟨x, rfl, hx⟩ := fits1 hf.flat
  obtain ⟨xs, rfl, hm, hfx⟩ := wf_sl hx
  have hp := ptsy_of hfx
  cases hb : pathB xs
  · simp (disch := omega) only [vt90, VT.ok, Nd.holds, X.outs, X.ds, X.d, Op1.ev, Op2.ev, takeD_zero, takeD_cons, List.cons_append, List.nil_append, List.getD_cons_zero, List.getD_cons_succ, D.int_i, D.bool_b, D.lst_l, if_true, Bool.false_eq_true, if_false, implies_true, and_true, F91, R91, F19000, R19000, F90, pathD, cL, hb, Bool.not_false, bndD, bndQ, dQ]
  · obtain ⟨h1, h2, h3, h4⟩ := pathB_iff.1 hb
    obtain ⟨e1, e2⟩ := cells2 hp h1
    have hpre : prBn [.l xs, .i (xs.length : Int), .i 0, .i (pX xs 0), .i (pY xs 0), .i (pX xs 0), .i (pY xs 0)] := ⟨xs, _, _, _, _, 0, rfl, by omega, hm⟩
    simp (disch := omega) only [vt90, VT.ok, Nd.holds, X.outs, X.ds, X.d, Op1.ev, Op2.ev, takeD_zero, takeD_cons, List.cons_append, List.nil_append, List.getD_cons_zero, List.getD_cons_succ, D.int_i, D.bool_b, D.lst_l, Bool.false_eq_true, implies_true, true_and, F91, R91, F19000, R19000, F90, ↓reduceIte, dlt_t, pathD, cL, hb, Bool.not_true, bndD, bndQ, e1, e2, lpBn]
    refine ⟨fun _ => hpre, ?_⟩
    first | rfl | (show dQ (growN xs 1 (at0 xs)) = _; rw [growN_1 h1])
theorem byte_row' (s : ByteArray) {j : Nat} (h : j < s.size) : cI (el (s.data.toList.map fun b => [D.i (b.toNat : Int)]) j) 0 = bt s j := by
  have hd : j < s.data.size := h
  have e : s[j]? = some s.data[j] := by
    rw [getElem?_pos s j h]; rfl
  simp only [el, cI, bt, List.getD, List.getElem?_map, Array.getElem?_toList, Array.getElem?_eq_getElem hd, Option.map_some, Option.getD_some, e, List.getElem?_cons_zero]
  rfl
theorem m23 : Meets Try.prog 23 S23 (R 23) (F 23) := by
  refine meets_of_vt (pre := R) (Φ := F) mixed (sgAt_all (P := Try.prog) (pre := R) (Φ := F) (l := sg23) (List.forall_mem_cons.2 ⟨Meets.at (pre := R) (Φ := F) m35, (fun _ h => nomatch h)⟩)) Try.func23 b23 n23 (loops_n 0 k23 fun k hk => by omega) e23 fun ds hf _ => ?_
  obtain ⟨x, rfl, hx⟩ := fits1 hf.flat
  obtain ⟨s, rfl, hs⟩ := wf_str hx
  have hlen : (s.data.toList.map fun b => [D.i (b.toNat : Int)]).length = s.size := by simp
  have hany : anyN (fun j => decide (cI (el (s.data.toList.map fun b => [D.i (b.toNat : Int)]) j) 0 < 32) || decide (126 < cI (el (s.data.toList.map fun b => [D.i (b.toNat : Int)]) j) 0)) s.size = anyN (lblP s) s.size := anyN_congr fun k hk => by
    rw [byte_row' s hk]; rfl
  simp only [vt23, VT.ok, Nd.holds, X.outs, X.ds, X.d, Op1.ev, takeD_zero, takeD_cons, List.cons_append, List.nil_append, List.getD_cons_zero, List.getD_cons_succ, D.bool_b, D.lst_l, D.str_s, F35, R35, F23, cfFn, plainD, plainB, cS, cL, hlen]
  refine ⟨fun _ i _ => ⟨_, rfl⟩, ?_⟩
  rw [← hany]
  rfl
end Go.Proofs.Ytoajdhghecjdlaa.rv
namespace Go.Proofs.Ytoajdhghecjdlaa.rv
set_option maxRecDepth 10000
open Go.RV
theorem fits8 {c0 c1 c2 c3 c4 c5 c6 c7 : CT} {ds : List D} (h : FitsF [c0, c1, c2, c3, c4, c5, c6, c7] ds) : ∃ a b c d e f g i, ds = [a, b, c, d, e, f, g, i] ∧ Wf c0 a ∧ Wf c1 b ∧ Wf c2 c ∧ Wf c3 d ∧ Wf c4 e ∧ Wf c5 f ∧ Wf c6 g ∧ Wf c7 i := by
  match ds, h with
  | [a, b, c, d, e, f, g, i], ⟨h0, h1, h2, h3, h4, h5, h6, h7, _⟩ => exact ⟨a, b, c, d, e, f, g, i, rfl, h0, h1, h2, h3, h4, h5, h6, h7⟩
theorem fitsIt {s : TypeId} {ds : List D} (h : FitsF [.int .i64, .int .i64, .int .i64, .int .i64, .int .i64, .int .i64, .sl s [.int .i64, .int .i64], .str] ds) :
    ∃ (k o a b c d : Int) (l : List (List D)) (t : ByteArray), ds = [.i k, .i o, .i a, .i b, .i c, .i d, .l l, .s t] ∧ l.length ≤ maxLen ∧ t.size ≤ maxLen := by
  obtain ⟨a, b, c, d, e, f, g, i, rfl, h0, h1, h2, h3, h4, h5, h6, h7⟩ := fits8 h
  obtain ⟨_, rfl, _⟩ := wf_i64 h0
  obtain ⟨_, rfl, _⟩ := wf_i64 h1
  obtain ⟨_, rfl, _⟩ := wf_i64 h2
  obtain ⟨_, rfl, _⟩ := wf_i64 h3
  obtain ⟨_, rfl, _⟩ := wf_i64 h4
  obtain ⟨_, rfl, _⟩ := wf_i64 h5
  obtain ⟨_, rfl, hl, _⟩ := wf_sl h6
  obtain ⟨_, rfl, ht⟩ := wf_str h7
  exact ⟨_, _, _, _, _, _, _, _, rfl, hl, ht⟩
abbrev itm (k o a b c d : Int) (l : List (List D)) (t : ByteArray) : List D := [.i k, .i o, .i a, .i b, .i c, .i d, .l l, .s t]
theorem kn_itm (k o a b c d : Int) (l : List (List D)) (t : ByteArray) : knB (itm k o a b c d l t) = (decide (1 ≤ k) && decide (k ≤ 4)) := rfl
theorem used_itm (k o a b c d : Int) (l : List (List D)) (t : ByteArray) : usedB (itm k o a b c d l t) = (!(!(k == 4) && !(t == ⟨#[]⟩)) && (if k = 3 then ((a == 0) && ((b == 0) && ((c == 0) && (d == 0)))) else (l.length : Int) == 0)) := rfl
theorem shp_itm (k o a b c d : Int) (l : List (List D)) (t : ByteArray) : shpB (itm k o a b c d l t) = if k = 3 then pathB l else bxB a b c d := rfl
theorem e_itm (k o a b c d : Int) (l : List (List D)) (t : ByteArray) : itemE (itm k o a b c d l t) = if (knB (itm k o a b c d l t) && usedB (itm k o a b c d l t) && !decide (o < 0)) = true then
    (if shpB (itm k o a b c d l t) = true then (if (plainB t && !decide (32 < (t.size : Int))) = true then 0 else 7) else 3) else 1 := rfl
theorem used_text {k o a b c d : Int} {l : List (List D)} {t : ByteArray} (h : usedB (itm k o a b c d l t) = true) (h4 : k ≠ 4) : t = ⟨#[]⟩ := by
  rw [used_itm, Bool.and_eq_true] at h
  have := h.1
  rw [beq_f h4] at this
  simpa using this
theorem fn44_eq (a b c d e f g h : D) : fn44 [a, b, c, d, e, f, g, h] = [.b (decide (1 ≤ a.int) && decide (a.int ≤ 4))] := by
  simp only [fn44, vt44, VT.val, X.ds, X.d, Op2.ev, List.getD_cons_zero, D.int_i, D.bool_b, ite_b, ite_and]
theorem fn97_eq (a b c d : D) : fn97 [a, b, c, d] = [a, b, c, d, .b (bxB a.int b.int c.int d.int)] := by
  simp only [fn97, vt97, VT.val, X.outs, X.ds, X.d, takeD_zero, takeD_cons, List.cons_append, List.nil_append, List.getD_cons_zero, List.getD_cons_succ, show T97 17 = fn17 from rfl, fn17_eq]
theorem m89 : Meets Try.prog 89 S89 (R 89) (F 89) := by
  refine meets_of_vt (pre := R) (Φ := F) mixed (sgAt_all (P := Try.prog) (pre := R) (Φ := F) (l := sg89) (List.forall_mem_cons.2 ⟨Meets.at (pre := R) (Φ := F) m90, List.forall_mem_cons.2 ⟨Meets.at (pre := R) (Φ := F) m91, (fun _ h => nomatch h)⟩⟩)) Try.func89 b89 n89 (loops_n 0 k89 fun k hk => by omega) e89 fun ds hf _ => ?_
  obtain ⟨x, rfl, hx⟩ := fits1 hf.flat
  simp only [vt89, VT.ok, Nd.holds, X.outs, X.ds, X.d, takeD_zero, takeD_cons, List.cons_append, List.nil_append, List.getD_cons_zero, List.getD_cons_succ, D.bool_b, implies_true, and_true, F91, R91, F90, R90, F89, bndD, pathD, extL, dQ]
theorem m60 : Meets Try.prog 60 S60 (R 60) (F 60) := by
  refine meets_of_vt (pre := R) (Φ := F) mixed (sgAt_all (P := Try.prog) (pre := R) (Φ := F) (l := sg60) (List.forall_mem_cons.2 ⟨Meets.at (pre := R) (Φ := F) m45, (fun _ h => nomatch h)⟩)) Try.func60 b60 n60 (loops_n 0 k60 fun k hk => by omega) e60 fun ds hf _ => ?_
  obtain ⟨k, o, a, b, c, d, l, t, rfl, _, _⟩ := fitsIt hf.flat
  rw [show F 60 = usedD from rfl, show usedD [.i k, .i o, .i a, .i b, .i c, .i d, .l l, .s t] = [.b (usedB (itm k o a b c d l t))] from rfl, used_itm]
  by_cases h4 : k = 4
  · subst h4
    simp (disch := omega) only [vt60, VT.ok, Nd.holds, X.outs, X.ds, X.d, Op1.ev, Op2.ev, takeD_zero, takeD_cons, List.cons_append, List.nil_append, List.getD_cons_zero, List.getD_cons_succ, D.int_i, D.bool_b, D.lst_l, Bool.false_eq_true, implies_true, true_and, false_implies, F45, R45, ↓reduceIte, beq_t, beq_f, fn45, vt45, VT.val, D.isT, beq_self_eq_true, Bool.not_false, Bool.not_true, Bool.false_and, Bool.true_and, Nat.reduceBEq]
    exact ⟨by intros; exact ⟨_, _, rfl⟩, rfl⟩
  · cases ht : (t == ⟨#[]⟩)
    · simp (disch := omega) only [vt60, VT.ok, X.ds, X.d, Op1.ev, Op2.ev, List.getD_cons_zero, List.getD_cons_succ, D.int_i, D.bool_b, D.str_s, ↓reduceIte, beq_f, ht, Bool.not_false, Bool.not_true, Bool.false_and, Bool.and_self]
    · by_cases hk : k = 3
      · subst hk
        simp (disch := omega) only [vt60, VT.ok, Nd.holds, X.outs, X.ds, X.d, Op1.ev, Op2.ev, takeD_zero, takeD_cons, List.cons_append, List.nil_append, List.getD_cons_zero, List.getD_cons_succ, D.int_i, D.bool_b, D.str_s, ite_b, ite_and, Bool.false_eq_true, implies_true, true_and, and_true, F45, R45, ↓reduceIte, beq_f, ht, fn45, vt45, VT.val, D.isT, beq_self_eq_true, Bool.not_false, Bool.not_true, Bool.and_false, Bool.true_and]
        intros; exact ⟨_, _, rfl⟩
      · simp (disch := omega) only [vt60, VT.ok, Nd.holds, X.outs, X.ds, X.d, Op1.ev, Op2.ev, takeD_zero, takeD_cons, List.cons_append, List.nil_append, List.getD_cons_zero, List.getD_cons_succ, D.int_i, D.bool_b, D.lst_l, D.str_s, Bool.false_eq_true, implies_true, true_and, and_true, false_implies, F45, R45, ↓reduceIte, beq_t, beq_f, ht, fn45, vt45, VT.val, D.isT, beq_self_eq_true, Bool.not_false, Bool.not_true, Bool.and_false, Bool.true_and, if_neg hk, Nat.reduceBEq]
        intros; exact ⟨_, _, rfl⟩
theorem m47 : Meets Try.prog 47 S47 (R 47) (F 47) := by
  refine meets_of_vt (pre := R) (Φ := F) mixed (sgAt_all (P := Try.prog) (pre := R) (Φ := F) (l := sg47) (List.forall_mem_cons.2 ⟨Meets.at (pre := R) (Φ := F) m44, List.forall_mem_cons.2 ⟨Meets.at (pre := R) (Φ := F) m60, List.forall_mem_cons.2 ⟨Meets.at (pre := R) (Φ := F) m45, List.forall_mem_cons.2 ⟨Meets.at (pre := R) (Φ := F) m89, List.forall_mem_cons.2 ⟨Meets.at (pre := R) (Φ := F) m97, List.forall_mem_cons.2 ⟨Meets.at (pre := R) (Φ := F) m23, (fun _ h => nomatch h)⟩⟩⟩⟩⟩⟩)) Try.func47 b47 n47 (loops_n 0 k47 fun k hk => by omega) e47 fun ds hf _ => ?_
  obtain ⟨k, o, a, b, c, d, l, t, rfl, hl, ht⟩ := fitsIt hf.flat
  rw [show F 47 = itmD from rfl, show itmD [.i k, .i o, .i a, .i b, .i c, .i d, .l l, .s t] = [.i (itemE (itm k o a b c d l t))] from rfl]
  obtain ⟨u, hu⟩ : ∃ u, usedB (itm k o a b c d l t) = u := ⟨_, rfl⟩
  have hu0 : usedD [.i k, .i o, .i a, .i b, .i c, .i d, .l l, .s t] = [.b u] := by rw [← hu]; rfl
  cases h1 : (knB (itm k o a b c d l t) && usedB (itm k o a b c d l t) && !decide (o < 0))
  · have hc : ((!(decide (1 ≤ k) && decide (k ≤ 4)) || !u) || decide (o < 0)) = true := by
      rw [kn_itm k o a b c d l t, hu] at h1
      cases h2 : (decide (1 ≤ k) && decide (k ≤ 4)) <;> cases u <;> cases h4 : decide (o < 0) <;> first | rfl | (rw [h2, h4] at h1; cases h1)
    rw [e_itm, h1]
    simp only [vt47, VT.ok, Nd.holds, X.outs, X.ds, X.d, Op1.ev, Op2.ev, takeD_zero, takeD_cons, List.cons_append, List.nil_append, List.getD_cons_zero, List.getD_cons_succ, D.int_i, D.bool_b, D.str_s, ite_b, ite_or, ite_and, Bool.false_eq_true, if_false, implies_true, true_and, takeD1_0, F45, R45, F23, R23, F44, R44, F60, R60, F89, R89, F97, R97, fn44_eq, hu0]
    show if ((!(decide (1 ≤ k) && decide (k ≤ 4)) || !u) || decide (o < 0)) = true then _ else _
    rw [if_pos hc]; trivial
  · rw [e_itm, h1, if_pos rfl]
    simp only [Bool.and_eq_true, Bool.not_eq_true'] at h1
    obtain ⟨⟨h2, h3⟩, h4⟩ := h1
    have hut : u = true := by rw [← hu]; exact h3
    subst hut
    rw [kn_itm] at h2
    rw [shp_itm]
    by_cases hk : k = 3
    · have htx := used_text h3 (by omega)
      subst hk htx
      simp (disch := omega) only [vt47, VT.ok, Nd.holds, X.outs, X.ds, X.d, Op1.ev, Op2.ev, takeD_zero, takeD_cons, List.cons_append, List.nil_append, List.getD_cons_zero, List.getD_cons_succ, D.int_i, D.bool_b, ite_b, ite_and, Bool.false_eq_true, implies_true, true_and, false_implies, F45, R45, F23, R23, F44, R44, F60, R60, F89, R89, R97, ↓reduceIte, beq_f, fn44_eq, hu0, h4, fn45, vt45, VT.val, D.isT, beq_self_eq_true, Bool.not_true, Nat.reduceBEq, D.ptd, extL]
      refine ⟨by intros; exact ⟨_, _, rfl⟩, ?_⟩
      show if (!pathB l) = true then _ else _
      cases pathB l <;> rfl
    · simp (disch := omega) only [vt47, VT.ok, Nd.holds, X.outs, X.ds, X.d, Op1.ev, Op2.ev, takeD_zero, takeD_cons, List.cons_append, List.nil_append, List.getD_cons_zero, List.getD_cons_succ, D.int_i, D.bool_b, D.str_s, ite_b, ite_or, ite_and, Bool.false_eq_true, implies_true, true_and, false_implies, F45, R45, F23, R23, F44, R44, F60, R60, R89, F97, R97, ↓reduceIte, beq_f, fn44_eq, hu0, h4, fn45, vt45, VT.val, D.isT, beq_self_eq_true, Bool.not_true, Nat.reduceBEq, D.ptd, fn97_eq, if_neg hk, plainD, cS]
      show if ((!(decide (1 ≤ k) && decide (k ≤ 4)) && true) && true) = true then _ else _
      rw [h2, if_neg (by decide)]
      refine ⟨by intros; exact ⟨_, _, rfl⟩, ?_⟩
      show if (!bxB a b c d) = true then _ else _
      cases hb : bxB a b c d
      · rfl
      · by_cases h4 : k = 4
        · simp only [beq_t h4, Bool.true_and]
          cases plainB t <;> cases decide (32 < (t.size : Int)) <;> rfl
        · have htx := used_text h3 h4
          subst htx
          simp only [beq_f h4, Bool.false_and]
          rfl
end Go.Proofs.Ytoajdhghecjdlaa.rv
namespace Go.Proofs.Ytoajdhghecjdlaa.rv
set_option maxRecDepth 10000
open Go.RV
theorem boxy_of {s : TypeId} {I : List (List D)} (h : ∀ x ∈ I, FitsF [.int .i64, .int .i64, .int .i64, .int .i64, .int .i64, .int .i64, .sl s [.int .i64, .int .i64], .str] x) : boxy I 2 := fun i hi => by
  obtain ⟨k, o, a, b, c, d, l, t, e, _, _⟩ := fitsIt (h _ (getD_mem [] hi))
  simp only [cI, el]
  rw [e]
  exact ⟨rfl, rfl, rfl, rfl⟩
theorem boxy_of4 {I : List (List D)} (h : ∀ x ∈ I, FitsF [.int .i64, .int .i64, .int .i64, .int .i64] x) : boxy I 0 := fun i hi => by
  obtain ⟨x, y, z, w, e, hx, hy, hz, hw⟩ := fits4 (h _ (getD_mem [] hi))
  obtain ⟨_, rfl, _⟩ := wf_i64 hx
  obtain ⟨_, rfl, _⟩ := wf_i64 hy
  obtain ⟨_, rfl, _⟩ := wf_i64 hz
  obtain ⟨_, rfl, _⟩ := wf_i64 hw
  simp only [cI, el]
  rw [e]
  exact ⟨rfl, rfl, rfl, rfl⟩
theorem fitsS {s e : TypeId} {rest : List CT} {ds : List D} (h : FitsF (.int .i64 :: .int .i64 :: .int .i64 :: .int .i64 :: .sl e [.int .i64, .int .i64, .int .i64, .int .i64, .int .i64, .int .i64, .sl s [.int .i64, .int .i64], .str] :: rest) ds) :
    ∃ (a b c d : Int) (I : List (List D)) (ds' : List D), ds = .i a :: .i b :: .i c :: .i d :: .l I :: ds' ∧ FitsF rest ds' ∧ I.length ≤ maxLen ∧ ∀ x ∈ I, FitsF [.int .i64, .int .i64, .int .i64, .int .i64, .int .i64, .int .i64, .sl s [.int .i64, .int .i64], .str] x := by
  match ds, h with
  | x :: y :: z :: w :: l :: ds', ⟨h0, h1, h2, h3, h4, h5⟩ =>
    obtain ⟨a, rfl, _⟩ := wf_i64 h0
    obtain ⟨b, rfl, _⟩ := wf_i64 h1
    obtain ⟨c, rfl, _⟩ := wf_i64 h2
    obtain ⟨d, rfl, _⟩ := wf_i64 h3
    obtain ⟨I, rfl, hm, hI⟩ := wf_sl h4
    exact ⟨a, b, c, d, I, ds', rfl, h5, hm, hI⟩
theorem ibox_3 {x : List D} (h : cI x 0 = 3) : ibox x = if pathB (cL x 6) = true then some (bndQ (cL x 6)) else none := by rw [ibox, if_pos h]
theorem ibox_n {x : List D} (h : cI x 0 ≠ 3) : ibox x = if (knB x && bxQ (rQ x 2)) = true then some (rQ x 2) else none := by rw [ibox, if_neg h]
theorem loopM46_0 : LoopMeets Try.prog F (R L46_0.key) L46_0 lb46_0 := by
  refine loop_meets (pre := R) mixed (sgAt_all (P := Try.prog) (pre := R) (Φ := F) (l := sg46) (List.forall_mem_cons.2 ⟨Meets.at (pre := R) (Φ := F) m17, (fun _ h => nomatch h)⟩)) (loops_n 0 lk46_0 fun k hk => by omega) L46_0 (fun ρ => ((ρ.getD 2 default).int - (ρ.getD 3 default).int).toNat) le46_0 fun ρ _ hq => ?_
  obtain ⟨f, xs, a, b, c, d, j, rfl, hj, hm, hbx⟩ : prUn ρ := hq
  rw [maxLen_val] at hm
  by_cases hlt : j < xs.length
  · obtain ⟨e0, e1, e2, e3⟩ := hbx j hlt
    have hmu : ((xs.length : Int) - ((j + 1 : Nat) : Int)).toNat < ((xs.length : Int) - (j : Int)).toNat := by omega
    simp (disch := omega) only [rt46_0, VT.ok, Nd.holds, X.outs, X.ds, X.d, Op1.ev, Op2.ev, takeD_zero, takeD_cons, List.cons_append, List.nil_append, List.getD_cons_zero, List.getD_cons_succ, D.int_i, D.bool_b, D.lst_l, imin, imax, Int.toNat_natCast, implies_true, true_and, F17, R17, ↓reduceIte, dle_t, dlt_t, w64', fn17_eq, e0, e1, e2, e3]
    cases hb : bxB (cI (el xs j) 0) (cI (el xs j) (0 + 1)) (cI (el xs j) (0 + 2)) (cI (el xs j) (0 + 3))
    · simp only [Bool.not_false, if_true]
      refine round_next ⟨⟨f, xs, a, b, c, d, j + 1, rfl, by omega, hm, hbx⟩, hmu, ?_⟩
      show lpUn [.b f, .l xs, .i (xs.length : Int), .i ((j + 1 : Nat) : Int), .i a, .i b, .i c, .i d] = lpUn [.b f, .l xs, .i (xs.length : Int), .i (j : Int), .i a, .i b, .i c, .i d]
      have e : uniS xs j (!f, (a, b, c, d)) = uniS xs (j + 1) (!f, (a, b, c, d)) := by
        unfold uniS
        rw [fold_next hlt]
        have hb' : bxQ (rQ (el xs j) 0) = false := hb
        rw [hb']
        rfl
      simp only [lpUn, Int.toNat_natCast, e]
    · have hb' : bxQ (rQ (el xs j) 0) = true := hb
      simp only [Bool.not_true, Bool.false_eq_true, if_false]
      cases f
      · simp only [Bool.false_eq_true, if_false]
        refine round_next ⟨⟨false, xs, _, _, _, _, j + 1, rfl, by omega, hm, hbx⟩, hmu, ?_⟩
        have e : uniS xs j (true, (a, b, c, d)) = uniS xs (j + 1) (true, join (a, b, c, d) (rQ (el xs j) 0)) := by
          unfold uniS
          rw [fold_next hlt, hb']
          rfl
        show lpUn [.b false, .l xs, .i (xs.length : Int), .i ((j + 1 : Nat) : Int), .i (join (a, b, c, d) (rQ (el xs j) 0)).1, .i (join (a, b, c, d) (rQ (el xs j) 0)).2.1, .i (join (a, b, c, d) (rQ (el xs j) 0)).2.2.1, .i (join (a, b, c, d) (rQ (el xs j) 0)).2.2.2] = lpUn [.b false, .l xs, .i (xs.length : Int), .i (j : Int), .i a, .i b, .i c, .i d]
        simp only [lpUn, Int.toNat_natCast, Bool.not_false, e]
      · simp only [if_true]
        refine round_next ⟨⟨false, xs, _, _, _, _, j + 1, rfl, by omega, hm, hbx⟩, hmu, ?_⟩
        have e : uniS xs j (false, (a, b, c, d)) = uniS xs (j + 1) (true, rQ (el xs j) 0) := by
          unfold uniS
          rw [fold_next hlt, hb']
          rfl
        show lpUn [.b false, .l xs, .i (xs.length : Int), .i ((j + 1 : Nat) : Int), .i (rQ (el xs j) 0).1, .i (rQ (el xs j) 0).2.1, .i (rQ (el xs j) 0).2.2.1, .i (rQ (el xs j) 0).2.2.2] = lpUn [.b true, .l xs, .i (xs.length : Int), .i (j : Int), .i a, .i b, .i c, .i d]
        simp only [lpUn, Int.toNat_natCast, Bool.not_false, Bool.not_true, e]
  · have hj' : j = xs.length := by omega
    subst hj'
    simp (disch := omega) only [rt46_0, VT.ok, X.ds, X.d, Op2.ev, List.getD_cons_zero, List.getD_cons_succ, D.int_i, D.bool_b, Bool.false_eq_true, ↓reduceIte, dlt_f]
    refine round_exit (by omega) ?_
    show lpUn [.b f, .l xs, .i (xs.length : Int), .i (xs.length : Int), .i a, .i b, .i c, .i d] = _
    simp only [lpUn, Int.toNat_natCast, uniS, fold_end, Bool.not_not, dQ]
theorem m46 : Meets Try.prog 46 S46 (R 46) (F 46) := by
  refine meets_of_vt (pre := R) (Φ := F) mixed (sgAt_all (P := Try.prog) (pre := R) (Φ := F) (l := sg46) (List.forall_mem_cons.2 ⟨Meets.at (pre := R) (Φ := F) m17, (fun _ h => nomatch h)⟩)) Try.func46 b46 n46 (loops_n 1 k46 fun k hk => match k, hk with | 0, _ => loop_this lf46_0 loopM46_0) e46 fun ds hf _ => ?_
  obtain ⟨x, rfl, hx⟩ := fits1 hf.flat
  obtain ⟨xs, rfl, hm, hfx⟩ := wf_sl hx
  have hpre : prUn [.b true, .l xs, .i (xs.length : Int), .i 0, .i 0, .i 0, .i 0, .i 0] := ⟨true, xs, 0, 0, 0, 0, 0, rfl, by omega, hm, boxy_of4 hfx⟩
  simp only [vt46, VT.ok, Nd.holds, X.outs, X.ds, X.d, Op1.ev, List.cons_append, List.nil_append, List.getD_cons_zero, List.getD_cons_succ, D.bool_b, D.lst_l, F14600, R14600, F46]
  exact ⟨fun _ => hpre, rfl⟩
theorem loopM27_0 : LoopMeets Try.prog F (R L27_0.key) L27_0 lb27_0 := by
  refine loop_meets (pre := R) mixed (sgAt_all (P := Try.prog) (pre := R) (Φ := F) (l := sg27) (List.forall_mem_cons.2 ⟨Meets.at (pre := R) (Φ := F) m44, List.forall_mem_cons.2 ⟨Meets.at (pre := R) (Φ := F) m45, List.forall_mem_cons.2 ⟨Meets.at (pre := R) (Φ := F) m89, List.forall_mem_cons.2 ⟨Meets.at (pre := R) (Φ := F) m97, List.forall_mem_cons.2 ⟨Meets.at (pre := R) (Φ := F) m46, (fun _ h => nomatch h)⟩⟩⟩⟩⟩)) (loops_n 0 lk27_0 fun k hk => by omega) L27_0 (fun ρ => ((ρ.getD 1 default).int - (ρ.getD 2 default).int).toNat) le27_0 fun ρ _ hq => ?_
  obtain ⟨I, acc, j, rfl, hj, hm, hbx, hac⟩ : prBc ρ := hq
  by_cases hlt : j < I.length
  · obtain ⟨e0, e1, e2, e3⟩ := hbx j hlt
    have hmu : ((I.length : Int) - ((j + 1 : Nat) : Int)).toNat < ((I.length : Int) - (j : Int)).toNat := by omega
    have hn : ∀ acc' : List (List D), acc ++ bxRow (ibox (el I j)) = acc' → RoundOk F (R L27_0.key) (fun ρ => ((ρ.getD 1 default).int - (ρ.getD 2 default).int).toNat) L27_0 [.l I, .i (I.length : Int), .i (j : Int), .l acc] [.i (-1), .i ((j + 1 : Nat) : Int), .l acc'] := fun acc' h => by
      subst h
      refine round_next ⟨⟨I, _, j + 1, rfl, by omega, hm, hbx, ?_⟩, hmu, ?_⟩
      · rw [List.length_append]
        cases ibox (el I j) with
        | none => simp [bxRow]; omega
        | some q => simp [bxRow]; omega
      · show lpBc [.l I, .i (I.length : Int), .i ((j + 1 : Nat) : Int), .l (acc ++ bxRow (ibox (el I j)))] = lpBc [.l I, .i (I.length : Int), .i (j : Int), .l acc]
        simp only [lpBc, Int.toNat_natCast]
        rw [coll_next (i := j) hlt acc]
    have hkn : knB (el I j) = (decide (1 ≤ ((I.getD j []).getD 0 default).int) && decide (((I.getD j []).getD 0 default).int ≤ 4)) := rfl
    cases hk : knB (el I j)
    · have hib : ibox (el I j) = none := by
        have h3 : cI (el I j) 0 ≠ 3 := fun h => by
          rw [knB, h] at hk; cases hk
        rw [ibox_n h3, hk]; rfl
      rw [hkn] at hk
      simp (disch := omega) only [rt27_0, VT.ok, Nd.holds, X.outs, X.ds, X.d, Op1.ev, Op2.ev, takeD_zero, takeD_cons, List.cons_append, List.nil_append, List.getD_cons_zero, List.getD_cons_succ, D.int_i, D.bool_b, D.lst_l, Int.toNat_natCast, implies_true, true_and, F44, R44, ↓reduceIte, dle_t, dlt_t, w64', fn44_eq, hk, Bool.not_false]
      exact hn acc (by rw [hib]; simp [bxRow])
    · rw [hkn] at hk
      by_cases h3 : cI (el I j) 0 = 3
      · have h3' : ((I.getD j []).getD 0 default).int = 3 := h3
        have hib := ibox_3 h3
        have hp0 : pathB (cL [(I.getD j []).getD 6 default] 0) = pathB (cL (el I j) 6) := rfl
        simp (disch := omega) only [rt27_0, VT.ok, Nd.holds, X.outs, X.ds, X.d, Op1.ev, Op2.ev, takeD_zero, takeD_cons, List.cons_append, List.nil_append, List.getD_cons_zero, List.getD_cons_succ, D.int_i, D.bool_b, D.lst_l, Int.toNat_natCast, Bool.false_eq_true, implies_true, true_and, false_implies, F45, R45, F44, R44, F89, R89, R97, ↓reduceIte, dle_t, dlt_t, beq_t, w64', fn44_eq, Bool.not_true, fn45, vt45, VT.val, D.isT, beq_self_eq_true, Bool.true_and, Nat.reduceBEq, D.ptd, extL, List.length_append, List.length_cons, List.length_nil]
        refine ⟨by intros; exact ⟨_, _, rfl⟩, ?_⟩
        show if pathB (cL (el I j) 6) = true then _ else _
        split
        · rename_i hp
          exact hn _ (by rw [hib, if_pos hp]; rfl)
        · rename_i hp
          exact hn _ (by rw [hib, if_neg hp]; exact List.append_nil _)
      · have h3' : ((I.getD j []).getD 0 default).int ≠ 3 := h3
        have hib := ibox_n h3
        rw [hkn, hk, Bool.true_and] at hib
        have e0' : (I.getD j []).getD 2 default = .i (rQ (el I j) 2).1 := e0
        have e1' : (I.getD j []).getD 3 default = .i (rQ (el I j) 2).2.1 := e1
        have e2' : (I.getD j []).getD 4 default = .i (rQ (el I j) 2).2.2.1 := e2
        have e3' : (I.getD j []).getD 5 default = .i (rQ (el I j) 2).2.2.2 := e3
        simp (disch := omega) only [rt27_0, VT.ok, Nd.holds, X.outs, X.ds, X.d, Op1.ev, Op2.ev, takeD_zero, takeD_cons, List.cons_append, List.nil_append, List.getD_cons_zero, List.getD_cons_succ, D.int_i, D.bool_b, D.lst_l, Int.toNat_natCast, Bool.false_eq_true, implies_true, true_and, false_implies, F45, R45, F44, R44, R89, F97, R97, ↓reduceIte, dle_t, dlt_t, beq_f, w64', fn44_eq, hk, Bool.not_true, fn45, vt45, VT.val, D.isT, beq_self_eq_true, Nat.reduceBEq, D.ptd, fn97_eq, List.length_append, List.length_cons, List.length_nil, e0', e1', e2', e3']
        refine ⟨by intros; exact ⟨_, _, rfl⟩, ?_⟩
        show if bxQ (rQ (el I j) 2) = true then _ else _
        split
        · rename_i hp
          exact hn _ (by rw [hib, if_pos hp]; rfl)
        · rename_i hp
          exact hn _ (by rw [hib, if_neg hp]; exact List.append_nil _)
  · have hj' : j = I.length := by omega
    subst hj'
    simp (disch := omega) only [rt27_0, VT.ok, X.ds, X.d, Op2.ev, List.getD_cons_zero, List.getD_cons_succ, D.int_i, D.bool_b, Bool.false_eq_true, ↓reduceIte, dlt_f]
    refine round_exit (by omega) ?_
    show lpBc [.l I, .i (I.length : Int), .i (I.length : Int), .l acc] = _
    simp only [lpBc, Int.toNat_natCast, coll_end]
theorem m27 : Meets Try.prog 27 S27 (R 27) (F 27) := by
  refine meets_of_vt (pre := R) (Φ := F) mixed (sgAt_all (P := Try.prog) (pre := R) (Φ := F) (l := sg27) (List.forall_mem_cons.2 ⟨Meets.at (pre := R) (Φ := F) m44, List.forall_mem_cons.2 ⟨Meets.at (pre := R) (Φ := F) m45, List.forall_mem_cons.2 ⟨Meets.at (pre := R) (Φ := F) m89, List.forall_mem_cons.2 ⟨Meets.at (pre := R) (Φ := F) m97, List.forall_mem_cons.2 ⟨Meets.at (pre := R) (Φ := F) m46, (fun _ h => nomatch h)⟩⟩⟩⟩⟩)) Try.func27 b27 n27 (loops_n 1 k27 fun k hk => match k, hk with | 0, _ => loop_this lf27_0 loopM27_0) e27 fun ds hf hq => ?_
  obtain ⟨x, rfl, hx⟩ := fits1 hf.flat
  obtain ⟨I, rfl, hm, hfx⟩ := wf_sl hx
  have hm : I.length ≤ 1000000 := hq
  have hpre : prBc [.l I, .i (I.length : Int), .i 0, .l []] := ⟨I, [], 0, rfl, by omega, hm, boxy_of hfx, by simp⟩
  simp only [vt27, VT.ok, Nd.holds, X.outs, X.ds, X.d, Op1.ev, List.cons_append, List.nil_append, List.getD_cons_zero, List.getD_cons_succ, D.bool_b, D.lst_l, implies_true, true_and, F12700, R12700, F46, R46, F27]
  refine ⟨fun _ => hpre, ?_⟩
  have e : lpBc [.l I, .i (I.length : Int), .i 0, .l []] = [.i 0, .i (I.length : Int), .l (collN (fun j => bxRow (ibox (el I j))) I.length 0)] := rfl
  rw [e]
  show dQ (uniS (collN (fun j => bxRow (ibox (el I j))) I.length 0) 0 (false, z4)).2 = dQ (bndS I)
  rw [uni_coll]
  rfl
theorem loopM28_0 : LoopMeets Try.prog F (R L28_0.key) L28_0 lb28_0 := by
  refine loop_meets (pre := R) mixed (sgAt_all (P := Try.prog) (pre := R) (Φ := F) (l := sg28) (List.forall_mem_cons.2 ⟨Meets.at (pre := R) (Φ := F) m47, List.forall_mem_cons.2 ⟨Meets.at (pre := R) (Φ := F) m27, (fun _ h => nomatch h)⟩⟩)) (loops_n 0 lk28_0 fun k hk => by omega) L28_0 (fun ρ => ((ρ.getD 2 default).int - (ρ.getD 3 default).int).toNat) le28_0 fun ρ _ hq => ?_
  obtain ⟨v, I, j, rfl, hj, hm⟩ : prVc ρ := hq
  rw [maxLen_val] at hm
  by_cases hlt : j < I.length
  · have hN : itemE (el I j) = 0 → RoundOk F (R L28_0.key) (fun ρ => ((ρ.getD 2 default).int - (ρ.getD 3 default).int).toNat) L28_0 [v, .l I, .i (I.length : Int), .i (j : Int)] [.i (-1), v, .i ((j + 1 : Nat) : Int)] := fun h0 => by
      refine round_next ⟨⟨v, I, j + 1, rfl, by omega, hm⟩, ?_, ?_⟩
      · show ((I.length : Int) - ((j + 1 : Nat) : Int)).toNat < ((I.length : Int) - (j : Int)).toNat
        omega
      · show lpVc [v, .l I, .i (I.length : Int), .i ((j + 1 : Nat) : Int)] = lpVc [v, .l I, .i (I.length : Int), .i (j : Int)]
        simp only [lpVc, errLp, Int.toNat_natCast]
        exact scan_next hlt (by simp only [er, h0]; rfl)
    have hX : ∀ z : Int, itemE (el I j) = z → z ≠ 0 → RoundOk F (R L28_0.key) (fun ρ => ((ρ.getD 2 default).int - (ρ.getD 3 default).int).toNat) L28_0 [v, .l I, .i (I.length : Int), .i (j : Int)] [.i 0, .i z, .i (j : Int)] := fun z h0 hz => by
      refine round_exit (by omega) ?_
      show lpVc [v, .l I, .i (I.length : Int), .i (j : Int)] = _
      simp only [lpVc, errLp, Int.toNat_natCast]
      rw [← h0]
      exact scan_hit hlt (by simp only [er, h0]; simpa using hz)
    have e8 : itmD [(I.getD j []).getD 0 default, (I.getD j []).getD 1 default, (I.getD j []).getD 2 default, (I.getD j []).getD 3 default, (I.getD j []).getD 4 default, (I.getD j []).getD 5 default, (I.getD j []).getD 6 default, (I.getD j []).getD 7 default] = [.i (itemE (el I j))] := rfl
    simp (disch := omega) only [rt28_0, VT.ok, Nd.holds, X.outs, X.ds, X.d, Op1.ev, Op2.ev, takeD_zero, takeD_cons, List.cons_append, List.nil_append, List.getD_cons_zero, List.getD_cons_succ, D.int_i, D.bool_b, D.lst_l, Int.toNat_natCast, implies_true, true_and, F47, R47, ↓reduceIte, dle_t, dlt_t, w64', e8]
    by_cases h0 : itemE (el I j) = 0
    · rw [beq_t h0, Bool.not_true, if_neg (by decide)]; exact hN h0
    · rw [beq_f h0, Bool.not_false, if_pos rfl]; exact hX _ rfl h0
  · have hj' : j = I.length := by omega
    subst hj'
    simp (disch := omega) only [rt28_0, VT.ok, X.ds, X.d, Op2.ev, List.getD_cons_zero, List.getD_cons_succ, D.int_i, D.bool_b, Bool.false_eq_true, ↓reduceIte, dlt_f]
    refine round_exit (by omega) ?_
    show lpVc [v, .l I, .i (I.length : Int), .i (I.length : Int)] = _
    simp only [lpVc, errLp, Int.toNat_natCast]
    exact scan_end
theorem m28 : Meets Try.prog 28 S28 (R 28) (F 28) := by
  refine meets_of_vt (pre := R) (Φ := F) mixed (sgAt_all (P := Try.prog) (pre := R) (Φ := F) (l := sg28) (List.forall_mem_cons.2 ⟨Meets.at (pre := R) (Φ := F) m47, List.forall_mem_cons.2 ⟨Meets.at (pre := R) (Φ := F) m27, (fun _ h => nomatch h)⟩⟩)) Try.func28 b28 n28 (loops_n 1 k28 fun k hk => match k, hk with | 0, _ => loop_this lf28_0 loopM28_0) e28 fun ds hf _ => ?_
  obtain ⟨a, b, c, d, I, ds', rfl, h5, hm, hfx⟩ := fitsS hf.flat
  obtain rfl := fits0 h5
  have hval : valD [.i a, .i b, .i c, .i d, .l I] = [.i (validS I (a, b, c, d))] := rfl
  rw [show F 28 = valD from rfl, hval]
  by_cases h1 : 2048 < (I.length : Int)
  · simp (disch := omega) only [vt28, VT.ok, X.ds, X.d, Op1.ev, Op2.ev, List.getD_cons_zero, List.getD_cons_succ, D.int_i, D.bool_b, D.lst_l, ↓reduceIte, dlt_t, validS, if_pos h1]
  · have hpre : prVc [.i 0, .l I, .i (I.length : Int), .i 0] := ⟨_, I, 0, rfl, by omega, hm⟩
    have hbp : bdPre [.l I] := by show I.length ≤ 1000000; omega
    have hlp : lpVc [.i 0, .l I, .i (I.length : Int), .i 0] = errLp (fun j => itemE (el I j)) (.i 0) I.length 0 := rfl
    rw [validS, if_neg h1]
    rcases errLp_two (fun j => itemE (el I j)) (.i 0) I.length with ⟨k1, k2⟩ | ⟨k1, k2, k3⟩
    · rw [if_neg k1]
      simp (disch := omega) only [vt28, VT.ok, Nd.holds, X.outs, X.ds, X.d, Op1.ev, Op2.ev, takeD_zero, takeD_cons, List.cons_append, List.nil_append, List.getD_cons_zero, List.getD_cons_succ, D.int_i, D.bool_b, D.lst_l, Bool.false_eq_true, and_true, F12800, R12800, ↓reduceIte, dlt_f, beq_t, hlp, k2]
      exact fun _ => hpre
    · rw [if_pos k1]
      have hs : ((a == (bndS I).1) && ((b == (bndS I).2.1) && ((c == (bndS I).2.2.1) && (d == (bndS I).2.2.2)))) = sameQ (bndS I) (a, b, c, d) := sameQ_symm (a, b, c, d) (bndS I)
      simp (disch := omega) only [vt28, VT.ok, Nd.holds, X.outs, X.ds, X.d, Op1.ev, Op2.ev, takeD_zero, takeD_cons, List.cons_append, List.nil_append, List.getD_cons_zero, List.getD_cons_succ, D.int_i, D.bool_b, D.lst_l, ite_b, ite_and, Bool.false_eq_true, F27, R27, F12800, R12800, ↓reduceIte, dlt_f, beq_f, hlp, k3, bdsD, dQ, cL, hs]
      refine ⟨fun _ => hpre, fun _ => hbp, ?_⟩
      cases sameQ (bndS I) (a, b, c, d) <;> rfl
end Go.Proofs.Ytoajdhghecjdlaa.rv
namespace Go.Proofs.Ytoajdhghecjdlaa.rv
set_option maxRecDepth 10000
open Go.RV
theorem kw6 (a b c d e f : Bool) : (if a = true then [D.b true] else if b = true then [D.b true] else if c = true then [D.b true] else if d = true then [D.b true] else if e = true then [D.b true] else if f = true then [D.b true] else [D.b false]) = [D.b (a || (b || (c || (d || (e || f)))))] := by
  cases a <;> cases b <;> cases c <;> cases d <;> cases e <;> cases f <;> rfl
theorem fn61_eq (ds : List D) : fn61 ds = letD ds := by
  show vt61.val T61 ds = _
  show [if (if (if decide (97 ≤ cI ds 0) = true then D.b (decide (cI ds 0 ≤ 122)) else D.b false).bool = true then D.b true else (if decide (65 ≤ cI ds 0) = true then D.b (decide (cI ds 0 ≤ 90)) else D.b false)).bool = true then D.b true else D.b (cI ds 0 == 95)] = _
  simp only [ite_b, D.bool_b, ite_and, ite_or]
  rfl
theorem fn62_eq (ds : List D) : fn62 ds = digD ds := by
  show vt62.val T62 ds = _
  show [if decide (48 ≤ cI ds 0) = true then D.b (decide (cI ds 0 ≤ 57)) else D.b false] = _
  simp only [ite_b, ite_and]
  rfl
theorem fn51_eq (ds : List D) : fn51 ds = kwD ds := by
  exact kw6 _ _ _ _ _ _
theorem loopM50_0 : LoopMeets Try.prog F (R L50_0.key) L50_0 lb50_0 := by
  refine loop_meets (pre := R) mixed (sgAt_all (P := Try.prog) (pre := R) (Φ := F) (l := sg50) (List.forall_mem_cons.2 ⟨Meets.at (pre := R) (Φ := F) m61, List.forall_mem_cons.2 ⟨Meets.at (pre := R) (Φ := F) m62, (fun _ h => nomatch h)⟩⟩)) (loops_n 0 lk50_0 fun k hk => by omega) L50_0 (fun ρ => (((ρ.getD 0 default).str.size : Int) - (ρ.getD 1 default).int).toNat) le50_0 fun ρ _ hq => ?_
  obtain ⟨s, j, rfl, hj, hm⟩ : prWord ρ := hq
  rw [maxLen_val] at hm
  by_cases hlt : j < s.size
  · simp (disch := omega) only [rt50_0, VT.ok, Nd.holds, X.outs, X.ds, X.d, Op1.ev, Op2.ev, takeD_zero, takeD_cons, List.cons_append, List.nil_append, List.getD_cons_zero, List.getD_cons_succ, D.int_i, D.bool_b, D.str_s, ite_b, ite_or, ite_and, Int.toNat_natCast, implies_true, true_and, F61, R61, F62, R62, ↓reduceIte, dle_t, dlt_t, w64', fn61_eq, fn62_eq, letD, digD, cI, Int.toNat_natCast]
    have hN : wordP s j = false → RoundOk F (R L50_0.key) (fun ρ => (((ρ.getD 0 default).str.size : Int) - (ρ.getD 1 default).int).toNat) L50_0 [.s s, .i (j : Int)] [.i (-1), .i ((j + 1 : Nat) : Int)] := fun hb => by
      refine round_next ⟨⟨s, j + 1, rfl, by omega, hm⟩, ?_, ?_⟩
      · show ((s.size : Int) - ((j + 1 : Nat) : Int)).toNat < ((s.size : Int) - (j : Int)).toNat
        omega
      · show lpWord [.s s, .i ((j + 1 : Nat) : Int)] = lpWord [.s s, .i (j : Int)]
        simp only [lpWord, Int.toNat_natCast]
        exact scan_next hlt hb
    have hX : wordP s j = true → RoundOk F (R L50_0.key) (fun ρ => (((ρ.getD 0 default).str.size : Int) - (ρ.getD 1 default).int).toNat) L50_0 [.s s, .i (j : Int)] [.i 0, .i (j : Int)] := fun hb => by
      refine round_exit (by omega) ?_
      show lpWord [.s s, .i (j : Int)] = _
      simp only [lpWord, Int.toNat_natCast]
      exact scan_hit hlt hb
    have e : wordP s j = !(letB (bt s j) || (decide (0 < (j : Int)) && digB (bt s j))) := rfl
    cases hb : letB (bt s j)
    · cases hb2 : (decide (0 < (j : Int)) && digB (bt s j))
      · rw [hb, hb2] at e
        show if (letB (bt s j) || (decide (0 < (j : Int)) && digB (bt s j))) = true then _ else _
        rw [hb, hb2]
        exact hX e
      · rw [hb, hb2] at e
        show if (letB (bt s j) || (decide (0 < (j : Int)) && digB (bt s j))) = true then _ else _
        rw [hb, hb2]
        exact hN e
    · rw [hb] at e
      show if (letB (bt s j) || (decide (0 < (j : Int)) && digB (bt s j))) = true then _ else _
      rw [hb]
      exact hN e
  · have hj' : j = s.size := by omega
    subst hj'
    simp (disch := omega) only [rt50_0, VT.ok, Nd.holds, X.outs, X.ds, X.d, Op1.ev, Op2.ev, List.cons_append, List.nil_append, List.getD_cons_zero, List.getD_cons_succ, D.int_i, D.bool_b, D.str_s, Int.toNat_natCast, Bool.false_eq_true, implies_true, true_and, false_implies, ↓reduceIte, dle_t, dlt_f]
    refine round_exit (by omega) ?_
    show lpWord [.s s, .i (s.size : Int)] = _
    simp only [lpWord, Int.toNat_natCast]
    exact scan_end
theorem m50 : Meets Try.prog 50 S50 (R 50) (F 50) := by
  refine meets_of_vt (pre := R) (Φ := F) mixed (sgAt_all (P := Try.prog) (pre := R) (Φ := F) (l := sg50) (List.forall_mem_cons.2 ⟨Meets.at (pre := R) (Φ := F) m61, List.forall_mem_cons.2 ⟨Meets.at (pre := R) (Φ := F) m62, (fun _ h => nomatch h)⟩⟩)) Try.func50 b50 n50 (loops_n 1 k50 fun k hk => match k, hk with | 0, _ => loop_this lf50_0 loopM50_0) e50 fun ds hf _ => ?_
  obtain ⟨x, rfl, hx⟩ := fits1 hf.flat
  obtain ⟨s, rfl, hs⟩ := wf_str hx
  have hpre : prWord [.s s, .i 0] := ⟨s, 0, rfl, by omega, hs⟩
  simp only [vt50, VT.ok, Nd.holds, X.outs, X.ds, X.d, List.cons_append, List.nil_append, List.getD_cons_zero, List.getD_cons_succ, D.bool_b, F15000, R15000, F50]
  refine ⟨fun _ => hpre, ?_⟩
  simp only [lpWord, Int.toNat_zero, Nat.sub_zero, scan_fs, wordD, cS, List.getD_cons_zero, D.str_s]
  by_cases h : fs (wordP s) s.size < s.size
  · rw [if_pos h]; rfl
  · have := fs_le (wordP s) s.size
    rw [if_neg h, show fs (wordP s) s.size = s.size by omega]; rfl
theorem m37 : Meets Try.prog 37 S37 (R 37) (F 37) := by
  refine meets_of_vt (pre := R) (Φ := F) mixed (sgAt_all (P := Try.prog) (pre := R) (Φ := F) (l := sg37) (List.forall_mem_cons.2 ⟨Meets.at (pre := R) (Φ := F) m50, List.forall_mem_cons.2 ⟨Meets.at (pre := R) (Φ := F) m51, (fun _ h => nomatch h)⟩⟩)) Try.func37 b37 n37 (loops_n 0 k37 fun k hk => by omega) e37 fun ds hf _ => ?_
  obtain ⟨x, rfl, hx⟩ := fits1 hf.flat
  obtain ⟨s, rfl, hs⟩ := wf_str hx
  simp only [vt37, VT.ok, Nd.holds, X.outs, X.ds, X.d, Op1.ev, Op2.ev, takeD_zero, takeD_cons, List.cons_append, List.nil_append, List.getD_cons_zero, List.getD_cons_succ, D.int_i, D.bool_b, D.str_s, ite_b, ite_and, implies_true, and_true, F50, R50, F51, R51, F37, wordD, cS, fn51_eq, kwD, nameD, isName]
theorem byte_row (s : ByteArray) {j : Nat} (h : j < s.size) : cI (el (s.data.toList.map fun b => [D.i (b.toNat : Int)]) j) 0 = bt s j := by
  have hd : j < s.data.size := h
  have e : s[j]? = some s.data[j] := by
    rw [getElem?_pos s j h]; rfl
  simp only [el, cI, bt, List.getD, List.getElem?_map, Array.getElem?_toList, Array.getElem?_eq_getElem hd, Option.map_some, Option.getD_some, e, List.getElem?_cons_zero]
  rfl
theorem loopM53_0 : LoopMeets Try.prog F (R L53_0.key) L53_0 lb53_0 := by
  refine loop_meets (pre := R) mixed (sgAt_all (P := Try.prog) (pre := R) (Φ := F) (l := sg53) ((fun _ h => nomatch h))) (loops_n 0 lk53_0 fun k hk => by omega) L53_0 (fun ρ => ((ρ.getD 2 default).int - (ρ.getD 3 default).int).toNat) le53_0 fun ρ _ hq => ?_
  obtain ⟨v, bs, j, rfl, hj, hm⟩ : prLab ρ := hq
  rw [maxLen_val] at hm
  by_cases hlt : j < bs.length
  · simp (disch := omega) only [rt53_0, VT.ok, Nd.holds, X.ds, X.d, Op1.ev, Op2.ev, List.getD_cons_zero, List.getD_cons_succ, D.int_i, D.bool_b, D.lst_l, ite_b, ite_or, Int.toNat_natCast, implies_true, true_and, ↓reduceIte, dle_t, dlt_t, w64']
    show if (decide (cI (el bs j) 0 < 32) || decide (126 < cI (el bs j) 0)) = true then _ else _
    cases hb : (decide (cI (el bs j) 0 < 32) || decide (126 < cI (el bs j) 0))
    · simp only [Bool.false_eq_true, if_false]
      refine round_next ⟨⟨v, bs, j + 1, rfl, by omega, hm⟩, ?_, ?_⟩
      · show ((bs.length : Int) - ((j + 1 : Nat) : Int)).toNat < ((bs.length : Int) - (j : Int)).toNat
        omega
      · show lpLab [v, .l bs, .i (bs.length : Int), .i ((j + 1 : Nat) : Int)] = lpLab [v, .l bs, .i (bs.length : Int), .i (j : Int)]
        simp only [lpLab, Int.toNat_natCast]
        exact scan_next hlt hb
    · simp only [if_true]
      refine round_exit (by omega) ?_
      show lpLab [v, .l bs, .i (bs.length : Int), .i (j : Int)] = _
      simp only [lpLab, Int.toNat_natCast]
      exact scan_hit hlt hb
  · have hj' : j = bs.length := by omega
    subst hj'
    simp (disch := omega) only [rt53_0, VT.ok, X.ds, X.d, Op2.ev, List.getD_cons_zero, List.getD_cons_succ, D.int_i, D.bool_b, Bool.false_eq_true, ↓reduceIte, dlt_f]
    refine round_exit (by omega) ?_
    show lpLab [v, .l bs, .i (bs.length : Int), .i (bs.length : Int)] = _
    simp only [lpLab, Int.toNat_natCast]
    exact scan_end
theorem m53 : Meets Try.prog 53 S53 (R 53) (F 53) := by
  refine meets_of_vt (pre := R) (Φ := F) mixed (sgAt_all (P := Try.prog) (pre := R) (Φ := F) (l := sg53) ((fun _ h => nomatch h))) Try.func53 b53 n53 (loops_n 1 k53 fun k hk => match k, hk with | 0, _ => loop_this lf53_0 loopM53_0) e53 fun ds hf _ => ?_
  obtain ⟨x, rfl, hx⟩ := fits1 hf.flat
  obtain ⟨s, rfl, hs⟩ := wf_str hx
  have hlen : (s.data.toList.map fun b => [D.i (b.toNat : Int)]).length = s.size := by simp
  have hpre : prLab [.i 0, .l (s.data.toList.map fun b => [D.i (b.toNat : Int)]), .i (s.size : Int), .i 0] := ⟨.i 0, _, 0, by rw [hlen]; rfl, by omega, by rw [hlen]; exact hs⟩
  have hany : anyN (fun j => decide (cI (el (s.data.toList.map fun b => [D.i (b.toNat : Int)]) j) 0 < 32) || decide (126 < cI (el (s.data.toList.map fun b => [D.i (b.toNat : Int)]) j) 0)) s.size = anyN (lblP s) s.size := anyN_congr fun k hk => by
    rw [byte_row s hk]; rfl
  by_cases h : 32 < (s.size : Int)
  · simp (disch := omega) only [vt53, VT.ok, X.ds, X.d, Op1.ev, Op2.ev, List.getD_cons_zero, D.int_i, D.bool_b, D.str_s, F53, ↓reduceIte, dlt_t, labelD, labelE, cS, if_pos h]
  · simp (disch := omega) only [vt53, VT.ok, Nd.holds, X.outs, X.ds, X.d, Op1.ev, Op2.ev, List.cons_append, List.nil_append, List.getD_cons_zero, List.getD_cons_succ, D.int_i, D.bool_b, D.lst_l, D.str_s, Bool.false_eq_true, F15300, R15300, F53, ↓reduceIte, dlt_f, labelD, labelE, cS, hlen, if_neg h]
    refine ⟨fun _ => hpre, ?_⟩
    simp only [lpLab, hlen, Int.toNat_zero, Nat.sub_zero]
    rcases scan_two (p := fun j => decide (cI (el (s.data.toList.map fun b => [D.i (b.toNat : Int)]) j) 0 < 32) || decide (126 < cI (el (s.data.toList.map fun b => [D.i (b.toNat : Int)]) j) 0)) s.size with ⟨h1, j, _, _, _, h⟩ | ⟨h1, h⟩
    · rw [hany] at h1
      simp only [h, plainB, h1]; rfl
    · rw [hany] at h1
      simp only [h, plainB, h1]; rfl
theorem fn54_eq (ds : List D) : fn54 ds = sizedD ds := by
  show [if decide (1 ≤ cI ds 0) = true then D.b (decide (cI ds 0 ≤ 1048576)) else D.b false] = _
  simp only [ite_b, ite_and]
  rfl
end Go.Proofs.Ytoajdhghecjdlaa.rv
namespace Go.Proofs.Ytoajdhghecjdlaa.rv
set_option maxRecDepth 10000
open Go.RV
theorem fn64_eq (ds cap : List D) (h : ds.length = 6) (h' : cap.length = 1) : fn64 (ds ++ [.p cap]) = dyNm (.c 64 [.pt [.str]] [.p cap] :: ds) := by
  match ds, h, cap, h' with
  | [a0, a1, a2, a3, a4, a5], _, [b0], _ => rfl
theorem m20044 : Meets Try.prog 20044 S20044 (R 20044) (F 20044) := by
  refine meets_dyn (by decide) rfl fun d ds hf hp => ?_
  obtain ⟨cap, bs, e, hc, ha⟩ : dpNm 64 [.str] 1 6 (d :: ds) := hp
  cases e
  exact ⟨64, [.pt [.str]], [.p cap], S64, _, fn64, rfl, by decide, m64, rfl, rfl, trivial, fn64_eq _ cap ha hc⟩
theorem fn66_eq (ds cap : List D) (h : ds.length = 2) (h' : cap.length = 2) : fn66 (ds ++ [.p cap]) = dyNm (.c 66 [.pt [.str, .int .i64]] [.p cap] :: ds) := by
  match ds, h, cap, h' with
  | [a0, a1], _, [b0, b1], _ => rfl
theorem m20117 : Meets Try.prog 20117 S20117 (R 20117) (F 20117) := by
  refine meets_dyn (by decide) rfl fun d ds hf hp => ?_
  obtain ⟨cap, bs, e, hc, ha⟩ : dpNm 66 [.str, .int .i64] 2 2 (d :: ds) := hp
  cases e
  exact ⟨66, [.pt [.str, .int .i64]], [.p cap], S66, _, fn66, rfl, by decide, m66, rfl, rfl, trivial, fn66_eq _ cap ha hc⟩
theorem fn57_eq (ds cap : List D) (h : ds.length = 2) (h' : cap.length = 2) : fn57 (ds ++ [.p cap]) = dyNm (.c 57 [.pt [.str, .int .i64]] [.p cap] :: ds) := by
  match ds, h, cap, h' with
  | [a0, a1], _, [b0, b1], _ => rfl
theorem m20106 : Meets Try.prog 20106 S20106 (R 20106) (F 20106) := by
  refine meets_dyn (by decide) rfl fun d ds hf hp => ?_
  obtain ⟨cap, bs, e, hc, ha⟩ : dpNm 57 [.str, .int .i64] 2 2 (d :: ds) := hp
  cases e
  exact ⟨57, [.pt [.str, .int .i64]], [.p cap], S57, _, fn57, rfl, by decide, m57, rfl, rfl, trivial, fn57_eq _ cap ha hc⟩
theorem loopM63_0 : LoopMeets Try.prog F (R L63_0.key) L63_0 lb63_0 := by
  refine loop_meets (pre := R) mixed (sgAt_all (P := Try.prog) (pre := R) (Φ := F) (l := sg63) (List.forall_mem_cons.2 ⟨Meets.at (pre := R) (Φ := F) m20044, (fun _ h => nomatch h)⟩)) (loops_n 0 lk63_0 fun k hk => by omega) L63_0 (fun ρ => ((ρ.getD 3 default).int - (ρ.getD 4 default).int).toNat) le63_0 fun ρ _ hq => ?_
  obtain ⟨xs, c, v, j, rfl, hj, hm, hp⟩ : ixPr (dpNm 64 [.str] 1 6) 6 ρ := hq
  rw [maxLen_val] at hm
  by_cases hlt : j < xs.length
  · simp (disch := omega) only [rt63_0, VT.ok, Nd.holds, X.outs, X.ds, X.d, Op1.ev, Op2.ev, List.cons_append, List.nil_append, List.getD_cons_zero, List.getD_cons_succ, D.int_i, D.bool_b, D.lst_l, Int.toNat_natCast, implies_true, true_and, takeD1_0, F20044, R20044, ↓reduceIte, dle_t, dlt_t, w64']
    refine ⟨fun _ => hp j hlt, ?_⟩
    show if ((dyNm (c :: cellsN 6 (el xs j))).getD 0 default).bool = true then _ else _
    cases hb : ((dyNm (c :: cellsN 6 (el xs j))).getD 0 default).bool
    · simp only [Bool.false_eq_true, if_false]
      refine round_next ⟨⟨xs, c, v, j + 1, rfl, by omega, hm, hp⟩, ?_, ?_⟩
      · show ((xs.length : Int) - ((j + 1 : Nat) : Int)).toNat < ((xs.length : Int) - (j : Int)).toNat
        omega
      · show ixLp dyNm 6 [.l xs, c, v, .i (xs.length : Int), .i ((j + 1 : Nat) : Int)] = ixLp dyNm 6 [.l xs, c, v, .i (xs.length : Int), .i (j : Int)]
        simp only [ixLp, Int.toNat_natCast]
        exact scan_next hlt hb
    · simp only [if_true]
      refine round_exit (by omega) ?_
      show ixLp dyNm 6 [.l xs, c, v, .i (xs.length : Int), .i (j : Int)] = _
      simp only [ixLp, Int.toNat_natCast]
      exact scan_hit hlt hb
  · have hj' : j = xs.length := by omega
    subst hj'
    simp (disch := omega) only [rt63_0, VT.ok, X.ds, X.d, Op2.ev, List.getD_cons_zero, List.getD_cons_succ, D.int_i, D.bool_b, Bool.false_eq_true, ↓reduceIte, dlt_f]
    refine round_exit (by omega) ?_
    show ixLp dyNm 6 [.l xs, c, v, .i (xs.length : Int), .i (xs.length : Int)] = _
    simp only [ixLp, Int.toNat_natCast]
    exact scan_end
theorem m63 : Meets Try.prog 63 S63 (R 63) (F 63) := by
  refine meets_of_vt (pre := R) (Φ := F) mixed (sgAt_all (P := Try.prog) (pre := R) (Φ := F) (l := sg63) (List.forall_mem_cons.2 ⟨Meets.at (pre := R) (Φ := F) m20044, (fun _ h => nomatch h)⟩)) Try.func63 b63 n63 (loops_n 1 k63 fun k hk => match k, hk with | 0, _ => loop_this lf63_0 loopM63_0) e63 fun ds hf hq => ?_
  obtain ⟨x, c, rfl, hx, _⟩ := fits2 hf.flat
  obtain ⟨xs, rfl, hm, _⟩ := wf_sl hx
  have hq : ∀ i, i < xs.length → (dpNm 64 [.str] 1 6) (c :: cellsN 6 (el xs i)) := hq
  have hpre : ixPr (dpNm 64 [.str] 1 6) 6 [.l xs, c, .i 0, .i (xs.length : Int), .i 0] := ⟨xs, c, .i 0, 0, rfl, by omega, hm, hq⟩
  simp only [vt63, VT.ok, Nd.holds, X.outs, X.ds, X.d, Op1.ev, Op2.ev, List.cons_append, List.nil_append, List.getD_cons_zero, List.getD_cons_succ, D.int_i, D.bool_b, D.lst_l, F16300, R16300, F63]
  refine ⟨fun _ => hpre, ?_⟩
  simp only [ixLp, ixFn, Int.toNat_zero, Nat.sub_zero, scan_fs, ixI, cL, List.getD_cons_zero, List.getD_cons_succ, D.lst_l]
  split <;> rfl
theorem loopM71_0 : LoopMeets Try.prog F (R L71_0.key) L71_0 lb71_0 := by
  refine loop_meets (pre := R) mixed (sgAt_all (P := Try.prog) (pre := R) (Φ := F) (l := sg71) (List.forall_mem_cons.2 ⟨Meets.at (pre := R) (Φ := F) m20117, (fun _ h => nomatch h)⟩)) (loops_n 0 lk71_0 fun k hk => by omega) L71_0 (fun ρ => ((ρ.getD 3 default).int - (ρ.getD 4 default).int).toNat) le71_0 fun ρ _ hq => ?_
  obtain ⟨xs, c, v, j, rfl, hj, hm, hp⟩ : ixPr (dpNm 66 [.str, .int .i64] 2 2) 2 ρ := hq
  rw [maxLen_val] at hm
  by_cases hlt : j < xs.length
  · simp (disch := omega) only [rt71_0, VT.ok, Nd.holds, X.outs, X.ds, X.d, Op1.ev, Op2.ev, List.cons_append, List.nil_append, List.getD_cons_zero, List.getD_cons_succ, D.int_i, D.bool_b, D.lst_l, Int.toNat_natCast, implies_true, true_and, takeD1_0, F20117, R20117, ↓reduceIte, dle_t, dlt_t, w64']
    refine ⟨fun _ => hp j hlt, ?_⟩
    show if ((dyNm (c :: cellsN 2 (el xs j))).getD 0 default).bool = true then _ else _
    cases hb : ((dyNm (c :: cellsN 2 (el xs j))).getD 0 default).bool
    · simp only [Bool.false_eq_true, if_false]
      refine round_next ⟨⟨xs, c, v, j + 1, rfl, by omega, hm, hp⟩, ?_, ?_⟩
      · show ((xs.length : Int) - ((j + 1 : Nat) : Int)).toNat < ((xs.length : Int) - (j : Int)).toNat
        omega
      · show ixLp dyNm 2 [.l xs, c, v, .i (xs.length : Int), .i ((j + 1 : Nat) : Int)] = ixLp dyNm 2 [.l xs, c, v, .i (xs.length : Int), .i (j : Int)]
        simp only [ixLp, Int.toNat_natCast]
        exact scan_next hlt hb
    · simp only [if_true]
      refine round_exit (by omega) ?_
      show ixLp dyNm 2 [.l xs, c, v, .i (xs.length : Int), .i (j : Int)] = _
      simp only [ixLp, Int.toNat_natCast]
      exact scan_hit hlt hb
  · have hj' : j = xs.length := by omega
    subst hj'
    simp (disch := omega) only [rt71_0, VT.ok, X.ds, X.d, Op2.ev, List.getD_cons_zero, List.getD_cons_succ, D.int_i, D.bool_b, Bool.false_eq_true, ↓reduceIte, dlt_f]
    refine round_exit (by omega) ?_
    show ixLp dyNm 2 [.l xs, c, v, .i (xs.length : Int), .i (xs.length : Int)] = _
    simp only [ixLp, Int.toNat_natCast]
    exact scan_end
theorem m71 : Meets Try.prog 71 S71 (R 71) (F 71) := by
  refine meets_of_vt (pre := R) (Φ := F) mixed (sgAt_all (P := Try.prog) (pre := R) (Φ := F) (l := sg71) (List.forall_mem_cons.2 ⟨Meets.at (pre := R) (Φ := F) m20117, (fun _ h => nomatch h)⟩)) Try.func71 b71 n71 (loops_n 1 k71 fun k hk => match k, hk with | 0, _ => loop_this lf71_0 loopM71_0) e71 fun ds hf hq => ?_
  obtain ⟨x, c, rfl, hx, _⟩ := fits2 hf.flat
  obtain ⟨xs, rfl, hm, _⟩ := wf_sl hx
  have hq : ∀ i, i < xs.length → (dpNm 66 [.str, .int .i64] 2 2) (c :: cellsN 2 (el xs i)) := hq
  have hpre : ixPr (dpNm 66 [.str, .int .i64] 2 2) 2 [.l xs, c, .i 0, .i (xs.length : Int), .i 0] := ⟨xs, c, .i 0, 0, rfl, by omega, hm, hq⟩
  simp only [vt71, VT.ok, Nd.holds, X.outs, X.ds, X.d, Op1.ev, Op2.ev, List.cons_append, List.nil_append, List.getD_cons_zero, List.getD_cons_succ, D.int_i, D.bool_b, D.lst_l, F17100, R17100, F71]
  refine ⟨fun _ => hpre, ?_⟩
  simp only [ixLp, ixFn, Int.toNat_zero, Nat.sub_zero, scan_fs, ixI, cL, List.getD_cons_zero, List.getD_cons_succ, D.lst_l]
  split <;> rfl
theorem loopM67_0 : LoopMeets Try.prog F (R L67_0.key) L67_0 lb67_0 := by
  refine loop_meets (pre := R) mixed (sgAt_all (P := Try.prog) (pre := R) (Φ := F) (l := sg67) (List.forall_mem_cons.2 ⟨Meets.at (pre := R) (Φ := F) m20106, (fun _ h => nomatch h)⟩)) (loops_n 0 lk67_0 fun k hk => by omega) L67_0 (fun ρ => ((ρ.getD 3 default).int - (ρ.getD 4 default).int).toNat) le67_0 fun ρ _ hq => ?_
  obtain ⟨xs, c, v, j, rfl, hj, hm, hp⟩ : ixPr (dpNm 57 [.str, .int .i64] 2 2) 2 ρ := hq
  rw [maxLen_val] at hm
  by_cases hlt : j < xs.length
  · simp (disch := omega) only [rt67_0, VT.ok, Nd.holds, X.outs, X.ds, X.d, Op1.ev, Op2.ev, List.cons_append, List.nil_append, List.getD_cons_zero, List.getD_cons_succ, D.int_i, D.bool_b, D.lst_l, Int.toNat_natCast, implies_true, true_and, takeD1_0, F20106, R20106, ↓reduceIte, dle_t, dlt_t, w64']
    refine ⟨fun _ => hp j hlt, ?_⟩
    show if ((dyNm (c :: cellsN 2 (el xs j))).getD 0 default).bool = true then _ else _
    cases hb : ((dyNm (c :: cellsN 2 (el xs j))).getD 0 default).bool
    · simp only [Bool.false_eq_true, if_false]
      refine round_next ⟨⟨xs, c, v, j + 1, rfl, by omega, hm, hp⟩, ?_, ?_⟩
      · show ((xs.length : Int) - ((j + 1 : Nat) : Int)).toNat < ((xs.length : Int) - (j : Int)).toNat
        omega
      · show ixLp dyNm 2 [.l xs, c, v, .i (xs.length : Int), .i ((j + 1 : Nat) : Int)] = ixLp dyNm 2 [.l xs, c, v, .i (xs.length : Int), .i (j : Int)]
        simp only [ixLp, Int.toNat_natCast]
        exact scan_next hlt hb
    · simp only [if_true]
      refine round_exit (by omega) ?_
      show ixLp dyNm 2 [.l xs, c, v, .i (xs.length : Int), .i (j : Int)] = _
      simp only [ixLp, Int.toNat_natCast]
      exact scan_hit hlt hb
  · have hj' : j = xs.length := by omega
    subst hj'
    simp (disch := omega) only [rt67_0, VT.ok, X.ds, X.d, Op2.ev, List.getD_cons_zero, List.getD_cons_succ, D.int_i, D.bool_b, Bool.false_eq_true, ↓reduceIte, dlt_f]
    refine round_exit (by omega) ?_
    show ixLp dyNm 2 [.l xs, c, v, .i (xs.length : Int), .i (xs.length : Int)] = _
    simp only [ixLp, Int.toNat_natCast]
    exact scan_end
theorem m67 : Meets Try.prog 67 S67 (R 67) (F 67) := by
  refine meets_of_vt (pre := R) (Φ := F) mixed (sgAt_all (P := Try.prog) (pre := R) (Φ := F) (l := sg67) (List.forall_mem_cons.2 ⟨Meets.at (pre := R) (Φ := F) m20106, (fun _ h => nomatch h)⟩)) Try.func67 b67 n67 (loops_n 1 k67 fun k hk => match k, hk with | 0, _ => loop_this lf67_0 loopM67_0) e67 fun ds hf hq => ?_
  obtain ⟨x, c, rfl, hx, _⟩ := fits2 hf.flat
  obtain ⟨xs, rfl, hm, _⟩ := wf_sl hx
  have hq : ∀ i, i < xs.length → (dpNm 57 [.str, .int .i64] 2 2) (c :: cellsN 2 (el xs i)) := hq
  have hpre : ixPr (dpNm 57 [.str, .int .i64] 2 2) 2 [.l xs, c, .i 0, .i (xs.length : Int), .i 0] := ⟨xs, c, .i 0, 0, rfl, by omega, hm, hq⟩
  simp only [vt67, VT.ok, Nd.holds, X.outs, X.ds, X.d, Op1.ev, Op2.ev, List.cons_append, List.nil_append, List.getD_cons_zero, List.getD_cons_succ, D.int_i, D.bool_b, D.lst_l, F16700, R16700, F67]
  refine ⟨fun _ => hpre, ?_⟩
  simp only [ixLp, ixFn, Int.toNat_zero, Nat.sub_zero, scan_fs, ixI, cL, List.getD_cons_zero, List.getD_cons_succ, D.lst_l]
  split <;> rfl
theorem m65 : Meets Try.prog 65 S65 (R 65) (F 65) := by
  refine meets_of_vt (pre := R) (Φ := F) mixed (sgAt_all (P := Try.prog) (pre := R) (Φ := F) (l := sg65) (List.forall_mem_cons.2 ⟨Meets.at (pre := R) (Φ := F) m71, (fun _ h => nomatch h)⟩)) Try.func65 b65 n65 (loops_n 0 k65 fun k hk => by omega) e65 fun ds hf hq => ?_
  obtain ⟨x, c, rfl, hx, _⟩ := fits2 hf.flat
  simp only [vt65, VT.ok, Nd.holds, X.outs, X.ds, X.d, Op2.ev, takeD_zero, takeD_cons, List.cons_append, List.nil_append, List.getD_cons_zero, List.getD_cons_succ, D.int_i, D.bool_b, and_true, F71, R71, F65, ixFn, cfFn, ixI_any]
  exact fun _ => hq
theorem m56 : Meets Try.prog 56 S56 (R 56) (F 56) := by
  refine meets_of_vt (pre := R) (Φ := F) mixed (sgAt_all (P := Try.prog) (pre := R) (Φ := F) (l := sg56) (List.forall_mem_cons.2 ⟨Meets.at (pre := R) (Φ := F) m67, (fun _ h => nomatch h)⟩)) Try.func56 b56 n56 (loops_n 0 k56 fun k hk => by omega) e56 fun ds hf hq => ?_
  obtain ⟨x, c, rfl, hx, _⟩ := fits2 hf.flat
  simp only [vt56, VT.ok, Nd.holds, X.outs, X.ds, X.d, Op2.ev, takeD_zero, takeD_cons, List.cons_append, List.nil_append, List.getD_cons_zero, List.getD_cons_succ, D.int_i, D.bool_b, and_true, F67, R67, F56, ixFn, cfFn, ixI_any]
  exact fun _ => hq
end Go.Proofs.Ytoajdhghecjdlaa.rv
