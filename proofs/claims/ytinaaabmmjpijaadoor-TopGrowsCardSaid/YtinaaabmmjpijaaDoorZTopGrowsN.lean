/-
 RV, part 21: what the walks of library functions by hand need: their contracts from what they do to memory.; RV, part 22: slices.Clone and slices.Delete, walked.; Ranks grow: the table of closed forms.; Ranks of graphs: which graphs are small.; Graphs: names and labels.; Graphs: library functions.; Graphs: names' places, ports, nodes.; Graphs: nodes.; Graphs: clusters around a cluster; clusters; edges.
-/
import Derived.WalkSpells
import Derived.WalkLawsBesides
import Derived.Deep.LoopGhost
import Derived.Deep.RegionLaw
import Derived.Lib.Walk
import Derived.Lib.SliceRun
import Derived.Shelf.RegionOpenPlain
import Derived.Test.YtinaaabmmjpijaaDoorZTopGrowsM
namespace Go.RV
open Go.RowKit
def infoOk (P : Program) (e : TypeId) (k : Nat) (B : Nat := 1000) : Bool := match P.info? e with
 | some i => match i.zero with
  | some z => i.size == k && z.cells.size == k && decide (i.bytes ≤ B) && decide (0 < k)
  | none => false
 | none => false
theorem infoOk_spec {P : Program} {e : TypeId} {k B : Nat} (h : infoOk P e k B = true) : ∃ i z, P.info? e = some i ∧ i.zero = some z ∧ i.size = k ∧ z.cells.size = k ∧ i.bytes ≤ B ∧ 0 < k := by
 unfold infoOk at h
 split at h
 ·rename_i i hi
  split at h
  ·rename_i z hz
   simp only [Bool.and_eq_true, beq_iff_eq, decide_eq_true_eq] at h
   exact ⟨i, z, hi, hz, h.1.1.1, h.1.1.2, h.1.2, h.2⟩
  ·cases h
 ·cases h
def cloneD (ds : List D) : List D := ds
def clonePreM (M : Nat) (ds : List D) : Prop := ∃ xs, ds = [.l xs] ∧ xs.length ≤ M
abbrev clonePre := clonePreM 1000000
theorem clone_meets {P : Program} {f : FuncId} {e : TypeId} {cts : List CT} {S : Sig} {M : Nat} (hps : S.ps = [(false, [.sl e cts])]) (hrs : S.rs = [(false, [.osl e cts])]) (hc : 0 < cts.length)
    (hen : ∀ (args : Array Value) (w : World), (callFunc f args).run P w = .ok (.enter f args) w)
    (hnil : ∀ w, Calls P f #[.slice none 0 0] w fun e w' => e = .returned (.slice none 0 0) ∧ w' = w)
    (hsome : ∀ (w : World) (q : Addr) (n c : Nat) (news : List Value), news.length = n * cts.length → (∀ j u, news[j]? = some u → w.cell? (q.add j) = some u) → (∀ u ∈ news, u.oneCell' = true) → n ≤ M →
      Calls P f #[.slice (some q) n c] w fun e' w' => ∃ v', e' = .returned v' ∧ w'.ownsRow w.heap.size e cts.length v' n news ∧ Below w.heap.size w w') (hlt : f < 20000 := by decide) :
    Meets P f S (clonePreM M) cloneD := by
  refine MeetsFn.meets ⟨hen, fun w F vs ds hF _ hA hp => ?_⟩ hlt
  obtain ⟨xs, rfl, hxs⟩ := hp
  rw [hps] at hA
  match vs, hA with
  | [v], hA =>
    obtain ⟨d1, d2, he, ⟨us, h1, h2⟩, h3⟩ := hA
    have h3 : d2 = [] := h3
    subst h3
    rw [List.append_nil] at he
    subst he
    have h1 : us = [v] := h1
    subst h1
    have hrep : Rep w F (.sl e cts) v (.l xs) := h2.1
    have hres : ∀ (w' : World) (v' : Value), OwnD w' F e cts v' (.l xs) → ResRepO w' F S.rs v' [.l xs] [v'] := fun w' v' ho => by
      rw [hrs]
      exact ⟨[v'], rfl, rfl, ho, trivial⟩
    have hFlt : ∀ w' : World, Below w.heap.size w w' → ∀ b, F b → (F b ∨ w.heap.size ≤ b) ∧ b < w'.heap.size := fun w' hb b hFb => ⟨.inl hFb, Nat.lt_of_lt_of_le (hF b hFb) hb.size⟩
    rcases rep_src hrep hc with ⟨rfl, hx⟩ | ⟨q, n, c, news, ys, rfl, hx, hn, hl, hcells, h1c, hrow⟩
    · simp only [D.l.injEq] at hx
      subst hx
      refine (hnil w).mono fun e' w' ⟨he, hw⟩ => ?_
      subst hw
      refine ⟨_, F, [.slice none 0 0], he, hres w' _ ⟨[], [], rfl, .inl ⟨rfl, rfl, _, rfl⟩, fun i hi => by simp at hi⟩, ⟨?_, by simp⟩, fun _ h => h, hFlt w' (Below.refl _ w'), Below.refl _ w'⟩
      intro u hu b hb
      simp only [List.mem_singleton] at hu
      subst hu
      cases hb
    · simp only [D.l.injEq] at hx
      subst hx
      refine (hsome w q n c news hl hcells h1c (by omega)).mono fun e' w' ⟨v', he, hown, hbel⟩ => ?_
      have hownR := OwnR.of hown
      rw [← hn] at hownR
      refine ⟨v', F, [v'], he, hres w' v' ⟨xs, news, rfl, hownR, hrow.mono (fun _ h => h) fun b hb => hbel.block b (hF b hb)⟩, ⟨?_, by simp⟩, fun _ h => h, hFlt w' hbel, hbel⟩
      intro u hu b hb
      simp only [List.mem_singleton] at hu
      subst hu
      rcases hown.2 with ⟨h1, _⟩ | ⟨g, cap, cur, h1, h2, h3, _⟩
      · rw [h1] at hb; cases hb
      · subst h1
        have hb' := ownB_own hb
        simp only [Value.ownBlock, si0] at hb'
        subst hb'
        refine ⟨h2, (Array.getElem?_eq_some_iff.1 h3).1, fun hFb => ?_⟩
        have := hF _ hFb
        omega
theorem enter_of {P : Program} {f : FuncId} {fn : Func} {c : Code} (hf : P.funcs[f]? = some fn) (hb : fn.body = some c) (hname : (fn.name == "runtime.NumGoroutine") = false) (args : Array Value) (w : World) : (callFunc f args).run P w = .ok (.enter f args) w := by
 have h1 : fn.name ≠ "runtime.NumGoroutine" := by simpa using hname
 simp [callFunc, hf, h1, hb]
end Go.RV
namespace Go.Proofs.YtinaaabmmjpijaaDoor.rv
open Go.RV Go.RowKit Go.Lib
set_option maxHeartbeats 1000000 in
theorem cloneNil73 (w : World) : Calls Tryd.prog 73 #[.slice none 0 0] w fun e w' => e = .returned (.slice none 0 0) ∧ w' = w := by
 have t22 : Tryd.prog.underlying 56 = some (.slice 62) := by kernel_rfl
 have q22 : ∀ (w : World) (a : Option Addr) (n c n' c' : Nat), (binOp .eql 56 (.slice a n c) (.slice none n' c')).run Tryd.prog w = .ok (.bool a.isNone) w := fun w a n c n' c' => Lib.run_eql_slice_nil w _ _ a n c n' c' t22
 go_enter Tryd.func73, Tryd.ntmps73
 go_wp2
 go_ret
 exact ⟨rfl, rfl⟩
set_option maxHeartbeats 2000000 in
set_option maxRecDepth 100000 in
theorem cloneSome73 (w : World) (q : Addr) (n c : Nat) (news : List Value) (hl : news.length = n * 2) (hc : ∀ j u, news[j]? = some u → w.cell? (q.add j) = some u) (h1 : ∀ u ∈ news, u.oneCell' = true) (hn : n ≤ 1000000) :
   Calls Tryd.prog 73 #[.slice (some q) n c] w fun e' w' => ∃ v', e' = .returned v' ∧ w'.ownsRow w.heap.size 62 2 v' n news ∧ Below w.heap.size w w' := by
 have t22 : Tryd.prog.underlying 56 = some (.slice 62) := by kernel_rfl
 obtain ⟨i0, z, hi, hz0, hz1, hzs, hby, hsz⟩ := infoOk_spec (P := Tryd.prog) (e := 62) (k := 2) (B := 1000) (by kernel_rfl)
 have q22 : ∀ (w : World) (a : Option Addr) (n c n' c' : Nat), (binOp .eql 56 (.slice a n c) (.slice none n' c')).run Tryd.prog w = .ok (.bool a.isNone) w := fun w a n c n' c' => Lib.run_eql_slice_nil w _ _ a n c n' c' t22
 have z23 : ∀ w, (Go.sizeOf 62).run Tryd.prog w = .ok 2 w := fun w => by simp [sizeOf, typeInfo, hi, hz1]
 have hbig : n * i0.bytes ≤ 140737488355328 := by
  have := Nat.mul_le_mul hn hby
  omega
 have A : Aside (∀ j u, news[j]? = some u → w.cell? (q.add j) = some u) := hc
 clear hc
 go_enter Tryd.func73, Tryd.ntmps73
 go_wp2_with (at_builtin; refine wpList_append_own _ rfl _ _ 56 rfl w.heap.size 62 i0 z 2 i0.bytes t22 hi hz0 hz1 rfl hzs hsz _ _ _ rfl (World.ownsRow_made w #[] 0 (Nat.le_refl _) (Nat.zero_le _) (by simp)) q n c news rfl ?qc1 ?qc2 ?qc3 ?qc4 ?qc5 ?qc6 ?_)
 case qc1 => exact hl
 case qc2 =>
  intro j u hj
  exact Lib.cell?_alloc_some _ (A.out j u hj)
 case qc3 => exact h1
 case qc4 => rw [Nat.zero_add]; unfold maxLen; omega
 case qc5 => rw [Nat.zero_add]; exact hbig
 case qc6 => simp
 intro v' w1 hown hgrow hnil
 go_wp2
 go_ret
 refine ⟨v', rfl, by simpa using hown, ?_⟩
 exact ((Below.refl _ w).alloc (Nat.le_refl _) _).grown hgrow (by simp) (by intro k hk; simp [Value.ownBlock] at hk; omega)
theorem m73 : Meets Tryd.prog 73 S73 (clonePreM 1000000) cloneD := clone_meets rfl rfl (by decide) (enter_of Tryd.func73 b73 n73) cloneNil73 cloneSome73
end Go.Proofs.YtinaaabmmjpijaaDoor.rv
namespace Go.Proofs.YtinaaabmmjpijaaDoor.rv
set_option maxRecDepth 10000
open Go.RV
def F : FuncId → List D → List D := tabOf [(61, fn61), (62, fn62), (14300, lpWord), (43, wordD), (44, fn44), (29, nameD), (37, fn37), (38, fn38), (12100, lpWord), (21, wordD), (22, fn22), (10, nameD), (64, fn64), (20047, dyNm), (16300, ixLp dyNm 6), (63, ixFn dyNm 6), (45, findD), (14600, lpLab), (46, labelD), (47, fn47), (66, fn66), (20049, dyNm), (17900, ixLp dyNm 2), (79, ixFn dyNm 2), (65, cfFn dyNm 2), (14800, lpPorts), (48, ports8D), (30, nodeD), (50, fn50), (20051, dyNm), (16700, ixLp dyNm 2), (67, ixFn dyNm 2), (49, cfFn dyNm 2), (16800, lpAr), (68, aroundD), (51, depthD), (31, cluD), (32, edgeD), (11700, lpV0), (11701, lpV1), (11702, lpV2), (17, validD), (12300, lpFind), (23, findD), (12400, lpPlain), (24, plainD), (12501, lpPortsR), (12500, lpPortsI), (25, portsD), (11, nodeD), (12600, lpDep), (26, depthD), (11200, lpCluR), (12, cluD), (13, edgeD), (10500, lpW0), (10501, lpW1), (10502, lpW2), (5, validD), (19100, iiLp), (91, iiFn), (90, ciFn), (13400, lpSk), (34, skD), (12800, lpSkR), (28, skD), (89, tzD), (74, stepsD), (15600, lpAl), (56, allD), (17500, lpNd), (75, needD), (15500, lpNo), (15501, lpBe), (15502, lpRx), (15503, lpVx), (15504, lpLo), (55, longD), (17650, lpS0), (17651, lpS1), (64076000, sdD), (15750, lpCs), (15751, lpCb), (15752, lpCt), (42057000, cfD), (13600, lpVd), (36, vdD), (13500, lpSo), (35, svD), (12000, lpRk), (20, vdD), (10900, lpCo), (9, costD), (88, tzD), (80, tzD), (17000, lpB2), (17001, lpB1), (17002, lpB0), (70, lsD), (15200, lpCn), (15201, lpGr), (16900, lpDv), (69, dvD), (52, clD), (15400, lpFl), (17200, lpLi), (72, liD), (86, rpD), (73, cloneD), (54, flD), (53, clD), (33, bkD), (13900, lpRv), (39, dvD), (15900, lpAt), (15901, lpBk), (59, bwD), (17700, lpLx), (77, lxD), (15800, lpUs), (15801, lpSe), (58, seD), (40, rlD), (41, clD), (14200, lpRf), (42, rfD), (27, bkD), (10400, lpF1), (10401, lpF0), (10402, lpF2), (10403, lpF3), (4, fewD), (11800, lpAc), (18, acD), (11900, lpRd), (19, rdD), (10800, lpRa), (8, raD), (11600, lpRc), (16, acD), (10700, lpRn), (7, rnD), (11500, lpSm), (15, okD), (14, fanD), (6, okD), (10300, lpLw), (3, okD)]
def R : FuncId → List D → Prop := tabP [(14300, prWord), (12100, prWord), (20047, dpNm 64 [.str] 1 6), (16300, ixPr (dpNm 64 [.str] 1 6) 6), (63, ixPre (dpNm 64 [.str] 1 6) 6), (14600, prLab), (20049, dpNm 66 [.str, .int .i64] 2 2), (17900, ixPr (dpNm 66 [.str, .int .i64] 2 2) 2), (79, ixPre (dpNm 66 [.str, .int .i64] 2 2) 2), (65, ixPre (dpNm 66 [.str, .int .i64] 2 2) 2), (14800, prPorts), (30, prNode), (20051, dpNm 50 [.str, .int .i64] 2 2), (16700, ixPr (dpNm 50 [.str, .int .i64] 2 2) 2), (67, ixPre (dpNm 50 [.str, .int .i64] 2 2) 2), (49, ixPre (dpNm 50 [.str, .int .i64] 2 2) 2), (16800, prArL), (68, prAr), (51, prAr), (31, prClu), (11700, prV0), (11701, prV1), (11702, prV2), (12300, prFind), (12400, prPlain), (12501, prPortsR), (12500, prPortsI), (11, prNode), (12600, prDep), (26, prAr), (11200, prCluR), (12, prClu), (10500, prW0), (10501, prW1), (10502, prW2), (19100, iiPr), (13400, prSk), (34, skPre), (12800, prSkR), (28, skPre), (89, tzPre), (74, stepsPre), (15600, prAl), (56, stepsPre), (17500, prNd), (75, stepsPre), (15500, prNo), (15501, prBe), (15502, prRx), (15503, prVx), (15504, prLo), (55, longPre), (17650, prS0), (17651, prS1), (64076000, sdPre), (15750, prCs), (15751, prCb), (15752, prCt), (42057000, cfPre), (13600, prVd), (36, vdPre), (13500, prSo), (35, svPre), (12000, prRk), (20, rkPre), (10900, prCo), (9, rkPre), (88, noPre), (80, tzPre), (17000, prB2), (17001, prB1), (17002, prB0), (70, lsPre), (15200, prCn), (15201, prGr), (16900, prDv), (69, dgPre), (52, dgPre), (15400, prFl), (17200, prLi), (72, liPre), (86, rpPre), (73, clonePre), (54, flPre), (53, noPre), (33, dgPre), (13900, prRv), (39, dgPre), (15900, prAt), (15901, prBk), (59, bwPre), (17700, prLx), (77, lxPre), (15800, prUs), (15801, prSeD 9), (58, sePreD 9), (40, dgPre), (41, noPre), (14200, prRf), (42, flPre), (27, dgPre), (10400, prF1), (10401, prF0), (10402, prF2), (10403, prF3), (4, fewPre), (11800, prAc), (18, ggPre), (11900, prRd), (19, rdPre), (10800, prRa), (8, raPre), (11600, prRc), (16, ggPre), (10700, prRn), (7, ggPre), (11500, prSm), (15, smPre), (14, anyP), (6, anyP), (10300, prLw), (3, lawPre)]
theorem F61 : F 61 = fn61 := rfl
theorem R61 : R 61 = fun _ => True := rfl
theorem F62 : F 62 = fn62 := rfl
theorem R62 : R 62 = fun _ => True := rfl
theorem F14300 : F 14300 = lpWord := rfl
theorem R14300 : R 14300 = prWord := rfl
theorem F43 : F 43 = wordD := rfl
theorem R43 : R 43 = fun _ => True := rfl
theorem F44 : F 44 = fn44 := rfl
theorem R44 : R 44 = fun _ => True := rfl
theorem F29 : F 29 = nameD := rfl
theorem R29 : R 29 = fun _ => True := rfl
theorem F37 : F 37 = fn37 := rfl
theorem R37 : R 37 = fun _ => True := rfl
theorem F38 : F 38 = fn38 := rfl
theorem R38 : R 38 = fun _ => True := rfl
theorem F12100 : F 12100 = lpWord := rfl
theorem R12100 : R 12100 = prWord := rfl
theorem F21 : F 21 = wordD := rfl
theorem R21 : R 21 = fun _ => True := rfl
theorem F22 : F 22 = fn22 := rfl
theorem R22 : R 22 = fun _ => True := rfl
theorem F10 : F 10 = nameD := rfl
theorem R10 : R 10 = fun _ => True := rfl
theorem F20047 : F 20047 = dyNm := rfl
theorem R20047 : R 20047 = dpNm 64 [.str] 1 6 := rfl
theorem F16300 : F 16300 = ixLp dyNm 6 := rfl
theorem R16300 : R 16300 = ixPr (dpNm 64 [.str] 1 6) 6 := rfl
theorem F63 : F 63 = ixFn dyNm 6 := rfl
theorem R63 : R 63 = ixPre (dpNm 64 [.str] 1 6) 6 := rfl
theorem F45 : F 45 = findD := rfl
theorem R45 : R 45 = fun _ => True := rfl
theorem F14600 : F 14600 = lpLab := rfl
theorem R14600 : R 14600 = prLab := rfl
theorem F46 : F 46 = labelD := rfl
theorem R46 : R 46 = fun _ => True := rfl
theorem F47 : F 47 = fn47 := rfl
theorem R47 : R 47 = fun _ => True := rfl
theorem F20049 : F 20049 = dyNm := rfl
theorem R20049 : R 20049 = dpNm 66 [.str, .int .i64] 2 2 := rfl
theorem F17900 : F 17900 = ixLp dyNm 2 := rfl
theorem R17900 : R 17900 = ixPr (dpNm 66 [.str, .int .i64] 2 2) 2 := rfl
theorem F79 : F 79 = ixFn dyNm 2 := rfl
theorem R79 : R 79 = ixPre (dpNm 66 [.str, .int .i64] 2 2) 2 := rfl
theorem F65 : F 65 = cfFn dyNm 2 := rfl
theorem R65 : R 65 = ixPre (dpNm 66 [.str, .int .i64] 2 2) 2 := rfl
theorem F14800 : F 14800 = lpPorts := rfl
theorem R14800 : R 14800 = prPorts := rfl
theorem F48 : F 48 = ports8D := rfl
theorem R48 : R 48 = fun _ => True := rfl
theorem F30 : F 30 = nodeD := rfl
theorem R30 : R 30 = prNode := rfl
theorem F20051 : F 20051 = dyNm := rfl
theorem R20051 : R 20051 = dpNm 50 [.str, .int .i64] 2 2 := rfl
theorem F16700 : F 16700 = ixLp dyNm 2 := rfl
theorem R16700 : R 16700 = ixPr (dpNm 50 [.str, .int .i64] 2 2) 2 := rfl
theorem F67 : F 67 = ixFn dyNm 2 := rfl
theorem R67 : R 67 = ixPre (dpNm 50 [.str, .int .i64] 2 2) 2 := rfl
theorem F49 : F 49 = cfFn dyNm 2 := rfl
theorem R49 : R 49 = ixPre (dpNm 50 [.str, .int .i64] 2 2) 2 := rfl
theorem F16800 : F 16800 = lpAr := rfl
theorem R16800 : R 16800 = prArL := rfl
theorem F68 : F 68 = aroundD := rfl
theorem R68 : R 68 = prAr := rfl
theorem F51 : F 51 = depthD := rfl
theorem R51 : R 51 = prAr := rfl
theorem F31 : F 31 = cluD := rfl
theorem R31 : R 31 = prClu := rfl
theorem F32 : F 32 = edgeD := rfl
theorem R32 : R 32 = fun _ => True := rfl
theorem F11700 : F 11700 = lpV0 := rfl
theorem R11700 : R 11700 = prV0 := rfl
theorem F11701 : F 11701 = lpV1 := rfl
theorem R11701 : R 11701 = prV1 := rfl
theorem F11702 : F 11702 = lpV2 := rfl
theorem R11702 : R 11702 = prV2 := rfl
theorem F17 : F 17 = validD := rfl
theorem R17 : R 17 = fun _ => True := rfl
theorem F12300 : F 12300 = lpFind := rfl
theorem R12300 : R 12300 = prFind := rfl
theorem F23 : F 23 = findD := rfl
theorem R23 : R 23 = fun _ => True := rfl
theorem F12400 : F 12400 = lpPlain := rfl
theorem R12400 : R 12400 = prPlain := rfl
theorem F24 : F 24 = plainD := rfl
theorem R24 : R 24 = fun _ => True := rfl
theorem F12501 : F 12501 = lpPortsR := rfl
theorem R12501 : R 12501 = prPortsR := rfl
theorem F12500 : F 12500 = lpPortsI := rfl
theorem R12500 : R 12500 = prPortsI := rfl
theorem F25 : F 25 = portsD := rfl
theorem R25 : R 25 = fun _ => True := rfl
theorem F11 : F 11 = nodeD := rfl
theorem R11 : R 11 = prNode := rfl
theorem F12600 : F 12600 = lpDep := rfl
theorem R12600 : R 12600 = prDep := rfl
theorem F26 : F 26 = depthD := rfl
theorem R26 : R 26 = prAr := rfl
theorem F11200 : F 11200 = lpCluR := rfl
theorem R11200 : R 11200 = prCluR := rfl
theorem F12 : F 12 = cluD := rfl
theorem R12 : R 12 = prClu := rfl
theorem F13 : F 13 = edgeD := rfl
theorem R13 : R 13 = fun _ => True := rfl
theorem F10500 : F 10500 = lpW0 := rfl
theorem R10500 : R 10500 = prW0 := rfl
theorem F10501 : F 10501 = lpW1 := rfl
theorem R10501 : R 10501 = prW1 := rfl
theorem F10502 : F 10502 = lpW2 := rfl
theorem R10502 : R 10502 = prW2 := rfl
theorem F5 : F 5 = validD := rfl
theorem R5 : R 5 = fun _ => True := rfl
theorem F19100 : F 19100 = iiLp := rfl
theorem R19100 : R 19100 = iiPr := rfl
theorem F91 : F 91 = iiFn := rfl
theorem R91 : R 91 = fun _ => True := rfl
theorem F90 : F 90 = ciFn := rfl
theorem R90 : R 90 = fun _ => True := rfl
theorem F13400 : F 13400 = lpSk := rfl
theorem R13400 : R 13400 = prSk := rfl
theorem F34 : F 34 = skD := rfl
theorem R34 : R 34 = skPre := rfl
theorem F12800 : F 12800 = lpSkR := rfl
theorem R12800 : R 12800 = prSkR := rfl
theorem F28 : F 28 = skD := rfl
theorem R28 : R 28 = skPre := rfl
theorem F89 : F 89 = tzD := rfl
theorem R89 : R 89 = tzPre := rfl
theorem F74 : F 74 = stepsD := rfl
theorem R74 : R 74 = stepsPre := rfl
theorem F15600 : F 15600 = lpAl := rfl
theorem R15600 : R 15600 = prAl := rfl
theorem F56 : F 56 = allD := rfl
theorem R56 : R 56 = stepsPre := rfl
theorem F17500 : F 17500 = lpNd := rfl
theorem R17500 : R 17500 = prNd := rfl
theorem F75 : F 75 = needD := rfl
theorem R75 : R 75 = stepsPre := rfl
theorem F15500 : F 15500 = lpNo := rfl
theorem R15500 : R 15500 = prNo := rfl
theorem F15501 : F 15501 = lpBe := rfl
theorem R15501 : R 15501 = prBe := rfl
theorem F15502 : F 15502 = lpRx := rfl
theorem R15502 : R 15502 = prRx := rfl
theorem F15503 : F 15503 = lpVx := rfl
theorem R15503 : R 15503 = prVx := rfl
theorem F15504 : F 15504 = lpLo := rfl
theorem R15504 : R 15504 = prLo := rfl
theorem F55 : F 55 = longD := rfl
theorem R55 : R 55 = longPre := rfl
theorem F17650 : F 17650 = lpS0 := rfl
theorem R17650 : R 17650 = prS0 := rfl
theorem F17651 : F 17651 = lpS1 := rfl
theorem R17651 : R 17651 = prS1 := rfl
theorem F64076000 : F 64076000 = sdD := rfl
theorem R64076000 : R 64076000 = sdPre := rfl
theorem F15750 : F 15750 = lpCs := rfl
theorem R15750 : R 15750 = prCs := rfl
theorem F15751 : F 15751 = lpCb := rfl
theorem R15751 : R 15751 = prCb := rfl
theorem F15752 : F 15752 = lpCt := rfl
theorem R15752 : R 15752 = prCt := rfl
theorem F42057000 : F 42057000 = cfD := rfl
theorem R42057000 : R 42057000 = cfPre := rfl
theorem F13600 : F 13600 = lpVd := rfl
theorem R13600 : R 13600 = prVd := rfl
theorem F36 : F 36 = vdD := rfl
theorem R36 : R 36 = vdPre := rfl
theorem F13500 : F 13500 = lpSo := rfl
theorem R13500 : R 13500 = prSo := rfl
theorem F35 : F 35 = svD := rfl
theorem R35 : R 35 = svPre := rfl
theorem F12000 : F 12000 = lpRk := rfl
theorem R12000 : R 12000 = prRk := rfl
theorem F20 : F 20 = vdD := rfl
theorem R20 : R 20 = rkPre := rfl
theorem F10900 : F 10900 = lpCo := rfl
theorem R10900 : R 10900 = prCo := rfl
theorem F9 : F 9 = costD := rfl
theorem R9 : R 9 = rkPre := rfl
theorem F80 : F 80 = tzD := rfl
theorem R80 : R 80 = tzPre := rfl
theorem F17000 : F 17000 = lpB2 := rfl
theorem R17000 : R 17000 = prB2 := rfl
theorem F17001 : F 17001 = lpB1 := rfl
theorem R17001 : R 17001 = prB1 := rfl
theorem F17002 : F 17002 = lpB0 := rfl
theorem R17002 : R 17002 = prB0 := rfl
theorem F70 : F 70 = lsD := rfl
theorem R70 : R 70 = lsPre := rfl
theorem F15200 : F 15200 = lpCn := rfl
theorem R15200 : R 15200 = prCn := rfl
theorem F15201 : F 15201 = lpGr := rfl
theorem R15201 : R 15201 = prGr := rfl
theorem F16900 : F 16900 = lpDv := rfl
theorem R16900 : R 16900 = prDv := rfl
theorem F69 : F 69 = dvD := rfl
theorem R69 : R 69 = dgPre := rfl
theorem F52 : F 52 = clD := rfl
theorem R52 : R 52 = dgPre := rfl
theorem F15400 : F 15400 = lpFl := rfl
theorem R15400 : R 15400 = prFl := rfl
theorem F17200 : F 17200 = lpLi := rfl
theorem R17200 : R 17200 = prLi := rfl
theorem F72 : F 72 = liD := rfl
theorem R72 : R 72 = liPre := rfl
theorem F86 : F 86 = rpD := rfl
theorem R86 : R 86 = rpPre := rfl
theorem F73 : F 73 = cloneD := rfl
theorem R73 : R 73 = clonePre := rfl
theorem F54 : F 54 = flD := rfl
theorem R54 : R 54 = flPre := rfl
theorem F33 : F 33 = bkD := rfl
theorem R33 : R 33 = dgPre := rfl
theorem F13900 : F 13900 = lpRv := rfl
theorem R13900 : R 13900 = prRv := rfl
theorem F39 : F 39 = dvD := rfl
theorem R39 : R 39 = dgPre := rfl
theorem F15900 : F 15900 = lpAt := rfl
theorem R15900 : R 15900 = prAt := rfl
theorem F15901 : F 15901 = lpBk := rfl
theorem R15901 : R 15901 = prBk := rfl
theorem F59 : F 59 = bwD := rfl
theorem F17700 : F 17700 = lpLx := rfl
theorem R17700 : R 17700 = prLx := rfl
theorem F77 : F 77 = lxD := rfl
theorem F15800 : F 15800 = lpUs := rfl
theorem F15801 : F 15801 = lpSe := rfl
theorem F58 : F 58 = seD := rfl
theorem R58 : R 58 = sePreD 9 := rfl
theorem F40 : F 40 = rlD := rfl
theorem R40 : R 40 = dgPre := rfl
theorem F14200 : F 14200 = lpRf := rfl
theorem R14200 : R 14200 = prRf := rfl
theorem F42 : F 42 = rfD := rfl
theorem R42 : R 42 = flPre := rfl
theorem F27 : F 27 = bkD := rfl
theorem R27 : R 27 = dgPre := rfl
theorem F10400 : F 10400 = lpF1 := rfl
theorem R10400 : R 10400 = prF1 := rfl
theorem F10401 : F 10401 = lpF0 := rfl
theorem R10401 : R 10401 = prF0 := rfl
theorem F10402 : F 10402 = lpF2 := rfl
theorem R10402 : R 10402 = prF2 := rfl
theorem F10403 : F 10403 = lpF3 := rfl
theorem R10403 : R 10403 = prF3 := rfl
theorem F4 : F 4 = fewD := rfl
theorem R4 : R 4 = fewPre := rfl
theorem F11800 : F 11800 = lpAc := rfl
theorem R11800 : R 11800 = prAc := rfl
theorem F18 : F 18 = acD := rfl
theorem R18 : R 18 = ggPre := rfl
theorem F11900 : F 11900 = lpRd := rfl
theorem R11900 : R 11900 = prRd := rfl
theorem F19 : F 19 = rdD := rfl
theorem R19 : R 19 = rdPre := rfl
theorem F10800 : F 10800 = lpRa := rfl
theorem R10800 : R 10800 = prRa := rfl
theorem F8 : F 8 = raD := rfl
theorem R8 : R 8 = raPre := rfl
theorem F11600 : F 11600 = lpRc := rfl
theorem R11600 : R 11600 = prRc := rfl
theorem F16 : F 16 = acD := rfl
theorem R16 : R 16 = ggPre := rfl
theorem F10700 : F 10700 = lpRn := rfl
theorem R10700 : R 10700 = prRn := rfl
theorem F7 : F 7 = rnD := rfl
theorem R7 : R 7 = ggPre := rfl
theorem F11500 : F 11500 = lpSm := rfl
theorem R11500 : R 11500 = prSm := rfl
theorem F15 : F 15 = okD := rfl
theorem R15 : R 15 = smPre := rfl
theorem F14 : F 14 = fanD := rfl
theorem R14 : R 14 = anyP := rfl
theorem F6 : F 6 = okD := rfl
theorem R6 : R 6 = anyP := rfl
theorem F10300 : F 10300 = lpLw := rfl
theorem R10300 : R 10300 = prLw := rfl
theorem fcm {f : FuncId} {S : Sig} {l : List (FuncId × Sig)} (h : Meets Tryd.prog f S (R f) (F f) ∧ ∀ e ∈ l, MeetsAt Tryd.prog e.1 e.2 R F) (hp : S.pc.isEmpty = true := by rfl) (hq : rowOf S = none := by rfl) : ∀ e ∈ (f, S) :: l, MeetsAt Tryd.prog e.1 e.2 R F := List.forall_mem_cons.2 ⟨Meets.at (pre := R) (Φ := F) h.1 hp hq, h.2⟩
end Go.Proofs.YtinaaabmmjpijaaDoor.rv
namespace Go.Proofs.YtinaaabmmjpijaaDoor.rv
set_option maxRecDepth 10000
open Go.RV
theorem loopM4_1 : LoopMeets Tryd.prog F (R L4_1.key) L4_1 lb4_1 := by
 refine loop_meets (pre := R) mixed (sgAt_all (P := Tryd.prog) (pre := R) (Φ := F) (l := sg4) ((fun _ h => nomatch h))) (loops_n 0 lk4_1 fun k hk => by omega) L4_1 (fun ρ => (((ρ.getD 7 default).lst.length : Int) - (ρ.getD 1 default).int).toNat) le4_1 fun ρ _ hp => ?_
 obtain ⟨v, a, b, c, d, e, xs, j, rfl, hj, hm⟩ : prF1 ρ := hp
 by_cases hlt : j < xs.length
 ·simp (disch := omega) only [rt4_1, VT.ok, Nd.holds, X.ds, X.d, Op1.ev, Op2.ev, gz0, gs0, D.int_i, D.bool_b, D.lst_l, tn0, implies_true, true_and, ↓reduceIte, dle_t, dlt_t, w64']
  show if portB xs j = true then _ else _
  cases hb : portB xs j
  ·rw [if_neg (by decide)]
   refine round_next ⟨⟨v, a, b, c, d, e, xs, j + 1, rfl, by omega, hm⟩, ?_, ?_⟩
   ·show ((xs.length : Int) - ((j + 1 : Nat) : Int)).toNat < ((xs.length : Int) - (j : Int)).toNat
    omega
   ·show lpF1 [v, .i ((j + 1 : Nat) : Int), a, b, c, d, e, .l xs] = lpF1 [v, .i (j : Int), a, b, c, d, e, .l xs]
    simp only [lpF1, scF, gz0, gs0, D.int_i, tn0, D.lst_l]
    exact scan_next hlt hb
  ·rw [if_pos rfl]
   refine round_exit (by omega) ?_
   show lpF1 [v, .i (j : Int), a, b, c, d, e, .l xs] = _
   simp only [lpF1, scF, gz0, gs0, D.int_i, tn0, D.lst_l]
   exact scan_hit hlt hb
 ·have hj' : j = xs.length := by omega
  subst hj'
  simp (disch := omega) only [rt4_1, VT.ok, X.ds, X.d, Op1.ev, Op2.ev, gz0, gs0, D.int_i, D.bool_b, D.lst_l, fe0, ↓reduceIte, dlt_f]
  refine round_exit (by omega) ?_
  show lpF1 [v, .i (xs.length : Int), a, b, c, d, e, .l xs] = _
  simp only [lpF1, scF, gz0, gs0, D.int_i, tn0, D.lst_l]
  exact scan_end
theorem scF_two (p : Nat → Bool) (v : D) (n : Nat) : (anyN p n = true ∧ ∃ j : Nat, scF p v n 0 = [.i 0, .b false, .i (j : Int)]) ∨ (anyN p n = false ∧ scF p v n 0 = [.i 1, v, .i (n : Int)]) := by
 rcases scan_any (p := p) (hit := fun j => [.i 0, .b false, .i (j : Int)]) (miss := fun j => [.i 1, v, .i (j : Int)]) n with ⟨h1, j, _, _, _, h⟩ | ⟨h1, h⟩
 ·exact .inl ⟨h1, j, by rw [scF, Nat.sub_zero, h]⟩
 ·exact .inr ⟨h1, by rw [scF, Nat.sub_zero, h]⟩
theorem loopM4_0 : LoopMeets Tryd.prog F (R L4_0.key) L4_0 lb4_0 := by
 refine loop_meets (pre := R) mixed (sgAt_all (P := Tryd.prog) (pre := R) (Φ := F) (l := sg4) ((fun _ h => nomatch h))) (loops_n 1 lk4_0 fun k hk => match k, hk with | 0, _ => by rw [li4_0_0]; exact loop_this lf4_1 loopM4_1) L4_0 (fun ρ => (((ρ.getD 4 default).lst.length : Int) - (ρ.getD 1 default).int).toNat) le4_0 fun ρ _ hp => ?_
 obtain ⟨v, a, b, c, d, xs, j, rfl, hj, hm, hx⟩ : prF0 ρ := hp
 by_cases hlt : j < xs.length
 ·have hnext : nodeF xs j = false → RoundOk F (R L4_0.key) (fun ρ => (((ρ.getD 4 default).lst.length : Int) - (ρ.getD 1 default).int).toNat) L4_0 [v, .i (j : Int), a, b, .l xs, c, d] [.i (-1), v, .i ((j : Int) + 1)] := fun hb => by
   refine round_next ⟨⟨v, a, b, c, d, xs, j + 1, rfl, by omega, hm, hx⟩, ?_, ?_⟩
   ·show ((xs.length : Int) - ((j + 1 : Nat) : Int)).toNat < ((xs.length : Int) - (j : Int)).toNat
    omega
   ·show lpF0 [v, .i ((j + 1 : Nat) : Int), a, b, .l xs, c, d] = lpF0 [v, .i (j : Int), a, b, .l xs, c, d]
    simp only [lpF0, scF, gz0, gs0, D.int_i, tn0, D.lst_l]
    exact scan_next hlt hb
  have hhit : nodeF xs j = true → RoundOk F (R L4_0.key) (fun ρ => (((ρ.getD 4 default).lst.length : Int) - (ρ.getD 1 default).int).toNat) L4_0 [v, .i (j : Int), a, b, .l xs, c, d] [.i 0, .b false, .i (j : Int)] := fun hb => by
   refine round_exit (by omega) ?_
   show lpF0 [v, .i (j : Int), a, b, .l xs, c, d] = _
   simp only [lpF0, scF, gz0, gs0, D.int_i, tn0, D.lst_l]
   exact scan_hit hlt hb
  have hcall : ∀ x2 x3 x4 x5 x6 : D, lpF1 [v, .i 0, x2, x3, x4, x5, x6, (xs.getD j []).getD 5 default] = scF (portB (cL (el xs j) 5)) v (cL (el xs j) 5).length 0 := fun _ _ _ _ _ => rfl
  simp (disch := omega) only [rt4_0, VT.ok, Nd.holds, X.outs, X.ds, X.d, Op1.ev, Op2.ev, List.cons_append, List.nil_append, gz0, gs0, D.int_i, D.bool_b, D.lst_l, ite_b, ite_or, tn0, implies_true, true_and, F10400, R10400, ↓reduceIte, dle_t, dlt_t, w64', hcall]
  have hN : nodeF xs j = (((decide (40 < ((((xs.getD j []).getD 0 default).str.size : Nat) : Int)) || decide (80 < ((((xs.getD j []).getD 1 default).str.size : Nat) : Int))) || decide (9 < ((((xs.getD j []).getD 5 default).lst.length : Nat) : Int))) || anyN (portB (cL (el xs j) 5)) (cL (el xs j) 5).length) := rfl
  cases h1 : ((decide (40 < ((((xs.getD j []).getD 0 default).str.size : Nat) : Int)) || decide (80 < ((((xs.getD j []).getD 1 default).str.size : Nat) : Int))) || decide (9 < ((((xs.getD j []).getD 5 default).lst.length : Nat) : Int)))
  ·rw [h1, Bool.false_or] at hN
   rw [if_neg (by decide)]
   have h9 : (cL (el xs j) 5).length ≤ 9 := by
    simp only [Bool.or_eq_false_iff, decide_eq_false_iff_not] at h1
    have := h1.2
    show ((xs.getD j []).getD 5 default).lst.length ≤ 9
    omega
   have hrow : (xs.getD j []).getD 5 default = .l (cL (el xs j) 5) := hx _ (getD_mem [] hlt)
   refine ⟨fun _ => ⟨v, _, _, _, _, _, cL (el xs j) 5, 0, by rw [hrow]; rfl, Nat.zero_le _, h9⟩, ?_⟩
   rcases scF_two (portB (cL (el xs j) 5)) v (cL (el xs j) 5).length with ⟨ha, k, h⟩ | ⟨ha, h⟩
   ·rw [h]
    exact hhit (by rw [hN, ha])
   ·rw [h]
    exact hnext (by rw [hN, ha])
  ·rw [if_pos rfl]
   exact hhit (by rw [hN, h1]; rfl)
 ·have hj' : j = xs.length := by omega
  subst hj'
  simp (disch := omega) only [rt4_0, VT.ok, X.ds, X.d, Op1.ev, Op2.ev, gz0, gs0, D.int_i, D.bool_b, D.lst_l, fe0, ↓reduceIte, dlt_f]
  refine round_exit (by omega) ?_
  show lpF0 [v, .i (xs.length : Int), a, b, .l xs, c, d] = _
  simp only [lpF0, scF, gz0, gs0, D.int_i, tn0, D.lst_l]
  exact scan_end
theorem loopM4_2 : LoopMeets Tryd.prog F (R L4_2.key) L4_2 lb4_2 := by
 refine loop_meets (pre := R) mixed (sgAt_all (P := Tryd.prog) (pre := R) (Φ := F) (l := sg4) ((fun _ h => nomatch h))) (loops_n 0 lk4_2 fun k hk => by omega) L4_2 (fun ρ => (((ρ.getD 5 default).lst.length : Int) - (ρ.getD 1 default).int).toNat) le4_2 fun ρ _ hp => ?_
 obtain ⟨v, a, b, c, d, xs, j, rfl, hj, hm⟩ : prF2 ρ := hp
 by_cases hlt : j < xs.length
 ·simp (disch := omega) only [rt4_2, VT.ok, Nd.holds, X.ds, X.d, Op1.ev, Op2.ev, gz0, gs0, D.int_i, D.bool_b, D.lst_l, ite_b, ite_or, tn0, implies_true, true_and, ↓reduceIte, dle_t, dlt_t, w64']
  show if edgeF xs j = true then _ else _
  cases hb : edgeF xs j
  ·rw [if_neg (by decide)]
   refine round_next ⟨⟨v, a, b, c, d, xs, j + 1, rfl, by omega, hm⟩, ?_, ?_⟩
   ·show ((xs.length : Int) - ((j + 1 : Nat) : Int)).toNat < ((xs.length : Int) - (j : Int)).toNat
    omega
   ·show lpF2 [v, .i ((j + 1 : Nat) : Int), a, b, c, .l xs, d] = lpF2 [v, .i (j : Int), a, b, c, .l xs, d]
    simp only [lpF2, scF, gz0, gs0, D.int_i, tn0, D.lst_l]
    exact scan_next hlt hb
  ·rw [if_pos rfl]
   refine round_exit (by omega) ?_
   show lpF2 [v, .i (j : Int), a, b, c, .l xs, d] = _
   simp only [lpF2, scF, gz0, gs0, D.int_i, tn0, D.lst_l]
   exact scan_hit hlt hb
 ·have hj' : j = xs.length := by omega
  subst hj'
  simp (disch := omega) only [rt4_2, VT.ok, X.ds, X.d, Op1.ev, Op2.ev, gz0, gs0, D.int_i, D.bool_b, D.lst_l, fe0, ↓reduceIte, dlt_f]
  refine round_exit (by omega) ?_
  show lpF2 [v, .i (xs.length : Int), a, b, c, .l xs, d] = _
  simp only [lpF2, scF, gz0, gs0, D.int_i, tn0, D.lst_l]
  exact scan_end
theorem loopM4_3 : LoopMeets Tryd.prog F (R L4_3.key) L4_3 lb4_3 := by
 refine loop_meets (pre := R) mixed (sgAt_all (P := Tryd.prog) (pre := R) (Φ := F) (l := sg4) ((fun _ h => nomatch h))) (loops_n 0 lk4_3 fun k hk => by omega) L4_3 (fun ρ => (((ρ.getD 6 default).lst.length : Int) - (ρ.getD 1 default).int).toNat) le4_3 fun ρ _ hp => ?_
 obtain ⟨v, a, b, c, d, xs, j, rfl, hj, hm⟩ : prF3 ρ := hp
 by_cases hlt : j < xs.length
 ·simp (disch := omega) only [rt4_3, VT.ok, Nd.holds, X.ds, X.d, Op1.ev, Op2.ev, gz0, gs0, D.int_i, D.bool_b, D.lst_l, tn0, implies_true, true_and, ↓reduceIte, dle_t, dlt_t, w64']
  show if portB xs j = true then _ else _
  cases hb : portB xs j
  ·rw [if_neg (by decide)]
   refine round_next ⟨⟨v, a, b, c, d, xs, j + 1, rfl, by omega, hm⟩, ?_, ?_⟩
   ·show ((xs.length : Int) - ((j + 1 : Nat) : Int)).toNat < ((xs.length : Int) - (j : Int)).toNat
    omega
   ·show lpF3 [v, .i ((j + 1 : Nat) : Int), a, b, c, d, .l xs] = lpF3 [v, .i (j : Int), a, b, c, d, .l xs]
    simp only [lpF3, scF, gz0, gs0, D.int_i, tn0, D.lst_l]
    exact scan_next hlt hb
  ·rw [if_pos rfl]
   refine round_exit (by omega) ?_
   show lpF3 [v, .i (j : Int), a, b, c, d, .l xs] = _
   simp only [lpF3, scF, gz0, gs0, D.int_i, tn0, D.lst_l]
   exact scan_hit hlt hb
 ·have hj' : j = xs.length := by omega
  subst hj'
  simp (disch := omega) only [rt4_3, VT.ok, X.ds, X.d, Op1.ev, Op2.ev, gz0, gs0, D.int_i, D.bool_b, D.lst_l, fe0, ↓reduceIte, dlt_f]
  refine round_exit (by omega) ?_
  show lpF3 [v, .i (xs.length : Int), a, b, c, d, .l xs] = _
  simp only [lpF3, scF, gz0, gs0, D.int_i, tn0, D.lst_l]
  exact scan_end
theorem m4 : Meets Tryd.prog 4 S4 (R 4) (F 4) := by
 refine meets_of_vt (pre := R) (Φ := F) mixed (sgAt_all (P := Tryd.prog) (pre := R) (Φ := F) (l := sg4) ((fun _ h => nomatch h))) Tryd.func4 b4 n4 (loops_n 4 k4 fun k hk => match k, hk with | 0, _ => loop_this lf4_0 loopM4_0 | 1, _ => loop_this lf4_1 loopM4_1 | 2, _ => loop_this lf4_2 loopM4_2 | 3, _ => loop_this lf4_3 loopM4_3) e4 fun ds _ hp => ?_
 obtain ⟨g, rfl, hx⟩ : fewPre ds := hp
 have hds : g.ds ++ [D.i 8, D.i 10] = [.s g.nm, .b g.dr, .l g.N, .l g.E, .l g.C, .i 8, .i 10] := rfl
 rw [hds]
 have hout : F 4 [.s g.nm, .b g.dr, .l g.N, .l g.E, .l g.C, .i 8, .i 10] = [.b (fewB g 8 10)] := rfl
 rw [hout]
 have c0 : ∀ v : D, lpF0 [v, .i 0, .s g.nm, .b g.dr, .l g.N, .l g.E, .l g.C] = scF (nodeF g.N) v g.N.length 0 := fun _ => rfl
 have c2 : ∀ v : D, lpF2 [v, .i 0, .s g.nm, .b g.dr, .l g.N, .l g.E, .l g.C] = scF (edgeF g.E) v g.E.length 0 := fun _ => rfl
 have c3 : ∀ v : D, lpF3 [v, .i 0, .s g.nm, .b g.dr, .l g.N, .l g.E, .l g.C] = scF (portB g.C) v g.C.length 0 := fun _ => rfl
 simp (disch := omega) only [vt4, VT.ok, Nd.holds, X.outs, X.ds, X.d, Op1.ev, Op2.ev, List.cons_append, List.nil_append, gz0, gs0, D.int_i, D.bool_b, D.lst_l, D.str_s, ite_b, ite_or, F10401, R10401, F10402, R10402, F10403, R10403, c0, c2, c3]
 have hF : fewB g 8 10 = (!(((decide (8 < (g.N.length : Int)) || decide (10 < (g.E.length : Int))) || decide (6 < (g.C.length : Int))) || decide (40 < (g.nm.size : Int))) && (!anyN (nodeF g.N) g.N.length && (!anyN (edgeF g.E) g.E.length && !anyN (portB g.C) g.C.length))) := rfl
 cases h1 : (((decide (8 < (g.N.length : Int)) || decide (10 < (g.E.length : Int))) || decide (6 < (g.C.length : Int))) || decide (40 < (g.nm.size : Int)))
 ·rw [h1] at hF
  rw [if_neg (by decide)]
  simp only [Bool.or_eq_false_iff, decide_eq_false_iff_not] at h1
  refine ⟨fun _ => ⟨_, _, _, _, _, g.N, 0, rfl, Nat.zero_le _, by omega, hx⟩, ?_⟩
  rcases scF_two (nodeF g.N) (.b false) g.N.length with ⟨a0, k0, h0⟩ | ⟨a0, h0⟩
  ·rw [a0] at hF
   rw [h0, hF]; rfl
  ·rw [a0] at hF
   rw [h0]
   refine ⟨fun _ => ⟨_, _, _, _, _, g.E, 0, rfl, Nat.zero_le _, by omega⟩, ?_⟩
   rcases scF_two (edgeF g.E) (.b false) g.E.length with ⟨a2, k2, h2⟩ | ⟨a2, h2⟩
   ·rw [a2] at hF
    simp only [takeD_cons, takeD_zero, List.cons_append, List.nil_append, gz0, gs0]
    rw [h2, hF]; rfl
   ·rw [a2] at hF
    simp only [takeD_cons, takeD_zero, List.cons_append, List.nil_append, gz0, gs0]
    rw [h2]
    refine ⟨fun _ => ⟨_, _, _, _, _, g.C, 0, rfl, Nat.zero_le _, by omega⟩, ?_⟩
    rcases scF_two (portB g.C) (.b false) g.C.length with ⟨a3, k3, h3⟩ | ⟨a3, h3⟩
    ·rw [a3] at hF
     simp only [takeD_cons, takeD_zero, List.cons_append, List.nil_append, gz0, gs0]
     rw [h3, hF]; rfl
    ·rw [a3] at hF
     simp only [takeD_cons, takeD_zero, List.cons_append, List.nil_append, gz0, gs0]
     rw [h3, hF]; rfl
 ·rw [h1] at hF
  rw [if_pos rfl, hF]
  rfl
end Go.Proofs.YtinaaabmmjpijaaDoor.rv
namespace Go.Proofs.YtinaaabmmjpijaaDoor.rv
set_option maxRecDepth 10000
open Go.RV
theorem kw6 (a b c d e f : Bool) : (if a = true then [D.b true] else if b = true then [D.b true] else if c = true then [D.b true] else if d = true then [D.b true] else if e = true then [D.b true] else if f = true then [D.b true] else [D.b false]) = [D.b (a || (b || (c || (d || (e || f)))))] := by
 cases a <;> cases b <;> cases c <;> cases d <;> cases e <;> cases f <;> rfl
theorem fn61_eq (ds : List D) : fn61 ds = letD ds := by
 show vt61.val T61 ds = _
 show [if (if (if decide (97 ≤ cI ds 0) = true then D.b (decide (cI ds 0 ≤ 122)) else D.b false).bool = true then D.b true else (if decide (65 ≤ cI ds 0) = true then D.b (decide (cI ds 0 ≤ 90)) else D.b false)).bool = true then D.b true else D.b (cI ds 0 == 95)] = _
 simp only [ite_b, D.bool_b, ite_and, ite_or]
 rfl
theorem fn62_eq (ds : List D) : fn62 ds = digD ds := by
 show vt62.val T62 ds = _
 show [if decide (48 ≤ cI ds 0) = true then D.b (decide (cI ds 0 ≤ 57)) else D.b false] = _
 simp only [ite_b, ite_and]
 rfl
theorem fn44_eq (ds : List D) : fn44 ds = kwD ds := by
 exact kw6 _ _ _ _ _ _
theorem loopM43_0 : LoopMeets Tryd.prog F (R L43_0.key) L43_0 lb43_0 := by
 refine loop_meets (pre := R) mixed (sgAt_all (P := Tryd.prog) (pre := R) (Φ := F) (l := sg43) (fcm ⟨m61, fcm ⟨m62, (fun _ h => nomatch h)⟩⟩)) (loops_n 0 lk43_0 fun k hk => by omega) L43_0 (fun ρ => (((ρ.getD 0 default).str.size : Int) - (ρ.getD 1 default).int).toNat) le43_0 fun ρ _ hq => ?_
 obtain ⟨s, j, rfl, hj, hm⟩ : prWord ρ := hq
 rw [maxLen_val] at hm
 by_cases hlt : j < s.size
 ·simp (disch := omega) only [rt43_0, VT.ok, Nd.holds, X.outs, X.ds, X.d, Op1.ev, Op2.ev, takeD_zero, takeD_cons, List.cons_append, List.nil_append, gz0, gs0, D.int_i, D.bool_b, D.str_s, ite_b, ite_or, ite_and, tn0, implies_true, true_and, F61, R61, F62, R62, ↓reduceIte, dle_t, dlt_t, w64', fn61_eq, fn62_eq, letD, digD, cI, tn0]
  have hN : wordP s j = false → RoundOk F (R L43_0.key) (fun ρ => (((ρ.getD 0 default).str.size : Int) - (ρ.getD 1 default).int).toNat) L43_0 [.s s, .i (j : Int)] [.i (-1), .i ((j + 1 : Nat) : Int)] := fun hb => by
   refine round_next ⟨⟨s, j + 1, rfl, by omega, hm⟩, ?_, ?_⟩
   ·show ((s.size : Int) - ((j + 1 : Nat) : Int)).toNat < ((s.size : Int) - (j : Int)).toNat
    omega
   ·show lpWord [.s s, .i ((j + 1 : Nat) : Int)] = lpWord [.s s, .i (j : Int)]
    simp only [lpWord, tn0]
    exact scan_next hlt hb
  have hX : wordP s j = true → RoundOk F (R L43_0.key) (fun ρ => (((ρ.getD 0 default).str.size : Int) - (ρ.getD 1 default).int).toNat) L43_0 [.s s, .i (j : Int)] [.i 0, .i (j : Int)] := fun hb => by
   refine round_exit (by omega) ?_
   show lpWord [.s s, .i (j : Int)] = _
   simp only [lpWord, tn0]
   exact scan_hit hlt hb
  have e : wordP s j = !(letB (bt s j) || (decide (0 < (j : Int)) && digB (bt s j))) := rfl
  cases hb : letB (bt s j)
  ·cases hb2 : (decide (0 < (j : Int)) && digB (bt s j))
   ·rw [hb, hb2] at e
    show if (letB (bt s j) || (decide (0 < (j : Int)) && digB (bt s j))) = true then _ else _
    rw [hb, hb2]
    exact hX e
   ·rw [hb, hb2] at e
    show if (letB (bt s j) || (decide (0 < (j : Int)) && digB (bt s j))) = true then _ else _
    rw [hb, hb2]
    exact hN e
  ·rw [hb] at e
   show if (letB (bt s j) || (decide (0 < (j : Int)) && digB (bt s j))) = true then _ else _
   rw [hb]
   exact hN e
 ·have hj' : j = s.size := by omega
  subst hj'
  simp (disch := omega) only [rt43_0, VT.ok, Nd.holds, X.outs, X.ds, X.d, Op1.ev, Op2.ev, List.cons_append, List.nil_append, gz0, gs0, D.int_i, D.bool_b, D.str_s, tn0, fe0, implies_true, true_and, false_implies, ↓reduceIte, dle_t, dlt_f]
  refine round_exit (by omega) ?_
  show lpWord [.s s, .i (s.size : Int)] = _
  simp only [lpWord, tn0]
  exact scan_end
theorem m43 : Meets Tryd.prog 43 S43 (R 43) (F 43) := by
 refine meets_of_vt (pre := R) (Φ := F) mixed (sgAt_all (P := Tryd.prog) (pre := R) (Φ := F) (l := sg43) (fcm ⟨m61, fcm ⟨m62, (fun _ h => nomatch h)⟩⟩)) Tryd.func43 b43 n43 (loops_n 1 k43 fun k hk => match k, hk with | 0, _ => loop_this lf43_0 loopM43_0) e43 fun ds hf _ => ?_
 obtain ⟨x, rfl, hx⟩ := fits1 hf.flat
 obtain ⟨s, rfl, hs⟩ := wf_str hx
 have hpre : prWord [.s s, .i 0] := ⟨s, 0, rfl, by omega, hs⟩
 simp only [vt43, VT.ok, Nd.holds, X.outs, X.ds, X.d, List.cons_append, List.nil_append, gz0, gs0, D.bool_b, F14300, R14300, F43]
 refine ⟨fun _ => hpre, ?_⟩
 simp only [lpWord, Int.toNat_zero, Nat.sub_zero, scan_fs, wordD, cS, gz0, D.str_s]
 by_cases h : fs (wordP s) s.size < s.size
 ·rw [if_pos h]; rfl
 ·have := fs_le (wordP s) s.size
  rw [if_neg h, show fs (wordP s) s.size = s.size by omega]; rfl
theorem fn37_eq (ds : List D) : fn37 ds = letD ds := by
 show vt37.val T37 ds = _
 show [if (if (if decide (97 ≤ cI ds 0) = true then D.b (decide (cI ds 0 ≤ 122)) else D.b false).bool = true then D.b true else (if decide (65 ≤ cI ds 0) = true then D.b (decide (cI ds 0 ≤ 90)) else D.b false)).bool = true then D.b true else D.b (cI ds 0 == 95)] = _
 simp only [ite_b, D.bool_b, ite_and, ite_or]
 rfl
theorem fn38_eq (ds : List D) : fn38 ds = digD ds := by
 show vt38.val T38 ds = _
 show [if decide (48 ≤ cI ds 0) = true then D.b (decide (cI ds 0 ≤ 57)) else D.b false] = _
 simp only [ite_b, ite_and]
 rfl
theorem fn22_eq (ds : List D) : fn22 ds = kwD ds := by
 exact kw6 _ _ _ _ _ _
theorem loopM21_0 : LoopMeets Tryd.prog F (R L21_0.key) L21_0 lb21_0 := by
 refine loop_meets (pre := R) mixed (sgAt_all (P := Tryd.prog) (pre := R) (Φ := F) (l := sg21) (fcm ⟨m37, fcm ⟨m38, (fun _ h => nomatch h)⟩⟩)) (loops_n 0 lk21_0 fun k hk => by omega) L21_0 (fun ρ => (((ρ.getD 0 default).str.size : Int) - (ρ.getD 1 default).int).toNat) le21_0 fun ρ _ hq => ?_
 obtain ⟨s, j, rfl, hj, hm⟩ : prWord ρ := hq
 rw [maxLen_val] at hm
 by_cases hlt : j < s.size
 ·simp (disch := omega) only [rt21_0, VT.ok, Nd.holds, X.outs, X.ds, X.d, Op1.ev, Op2.ev, takeD_zero, takeD_cons, List.cons_append, List.nil_append, gz0, gs0, D.int_i, D.bool_b, D.str_s, ite_b, ite_or, ite_and, tn0, implies_true, true_and, F37, R37, F38, R38, ↓reduceIte, dle_t, dlt_t, w64', fn37_eq, fn38_eq, letD, digD, cI, tn0]
  have hN : wordP s j = false → RoundOk F (R L21_0.key) (fun ρ => (((ρ.getD 0 default).str.size : Int) - (ρ.getD 1 default).int).toNat) L21_0 [.s s, .i (j : Int)] [.i (-1), .i ((j + 1 : Nat) : Int)] := fun hb => by
   refine round_next ⟨⟨s, j + 1, rfl, by omega, hm⟩, ?_, ?_⟩
   ·show ((s.size : Int) - ((j + 1 : Nat) : Int)).toNat < ((s.size : Int) - (j : Int)).toNat
    omega
   ·show lpWord [.s s, .i ((j + 1 : Nat) : Int)] = lpWord [.s s, .i (j : Int)]
    simp only [lpWord, tn0]
    exact scan_next hlt hb
  have hX : wordP s j = true → RoundOk F (R L21_0.key) (fun ρ => (((ρ.getD 0 default).str.size : Int) - (ρ.getD 1 default).int).toNat) L21_0 [.s s, .i (j : Int)] [.i 0, .i (j : Int)] := fun hb => by
   refine round_exit (by omega) ?_
   show lpWord [.s s, .i (j : Int)] = _
   simp only [lpWord, tn0]
   exact scan_hit hlt hb
  have e : wordP s j = !(letB (bt s j) || (decide (0 < (j : Int)) && digB (bt s j))) := rfl
  cases hb : letB (bt s j)
  ·cases hb2 : (decide (0 < (j : Int)) && digB (bt s j))
   ·rw [hb, hb2] at e
    show if (letB (bt s j) || (decide (0 < (j : Int)) && digB (bt s j))) = true then _ else _
    rw [hb, hb2]
    exact hX e
   ·rw [hb, hb2] at e
    show if (letB (bt s j) || (decide (0 < (j : Int)) && digB (bt s j))) = true then _ else _
    rw [hb, hb2]
    exact hN e
  ·rw [hb] at e
   show if (letB (bt s j) || (decide (0 < (j : Int)) && digB (bt s j))) = true then _ else _
   rw [hb]
   exact hN e
 ·have hj' : j = s.size := by omega
  subst hj'
  simp (disch := omega) only [rt21_0, VT.ok, Nd.holds, X.outs, X.ds, X.d, Op1.ev, Op2.ev, List.cons_append, List.nil_append, gz0, gs0, D.int_i, D.bool_b, D.str_s, tn0, fe0, implies_true, true_and, false_implies, ↓reduceIte, dle_t, dlt_f]
  refine round_exit (by omega) ?_
  show lpWord [.s s, .i (s.size : Int)] = _
  simp only [lpWord, tn0]
  exact scan_end
theorem m21 : Meets Tryd.prog 21 S21 (R 21) (F 21) := by
 refine meets_of_vt (pre := R) (Φ := F) mixed (sgAt_all (P := Tryd.prog) (pre := R) (Φ := F) (l := sg21) (fcm ⟨m37, fcm ⟨m38, (fun _ h => nomatch h)⟩⟩)) Tryd.func21 b21 n21 (loops_n 1 k21 fun k hk => match k, hk with | 0, _ => loop_this lf21_0 loopM21_0) e21 fun ds hf _ => ?_
 obtain ⟨x, rfl, hx⟩ := fits1 hf.flat
 obtain ⟨s, rfl, hs⟩ := wf_str hx
 have hpre : prWord [.s s, .i 0] := ⟨s, 0, rfl, by omega, hs⟩
 simp only [vt21, VT.ok, Nd.holds, X.outs, X.ds, X.d, List.cons_append, List.nil_append, gz0, gs0, D.bool_b, F12100, R12100, F21]
 refine ⟨fun _ => hpre, ?_⟩
 simp only [lpWord, Int.toNat_zero, Nat.sub_zero, scan_fs, wordD, cS, gz0, D.str_s]
 by_cases h : fs (wordP s) s.size < s.size
 ·rw [if_pos h]; rfl
 ·have := fs_le (wordP s) s.size
  rw [if_neg h, show fs (wordP s) s.size = s.size by omega]; rfl
theorem m29 : Meets Tryd.prog 29 S29 (R 29) (F 29) := by
 refine meets_of_vt (pre := R) (Φ := F) mixed (sgAt_all (P := Tryd.prog) (pre := R) (Φ := F) (l := sg29) (fcm ⟨m43, fcm ⟨m44, (fun _ h => nomatch h)⟩⟩)) Tryd.func29 b29 n29 (loops_n 0 k29 fun k hk => by omega) e29 fun ds hf _ => ?_
 obtain ⟨x, rfl, hx⟩ := fits1 hf.flat
 obtain ⟨s, rfl, hs⟩ := wf_str hx
 simp only [vt29, VT.ok, Nd.holds, X.outs, X.ds, X.d, Op1.ev, Op2.ev, takeD_zero, takeD_cons, List.cons_append, List.nil_append, gz0, gs0, D.int_i, D.bool_b, D.str_s, ite_b, ite_and, implies_true, and_true, F43, R43, F44, R44, F29, wordD, cS, fn44_eq, kwD, nameD, isName]
theorem m10 : Meets Tryd.prog 10 S10 (R 10) (F 10) := by
 refine meets_of_vt (pre := R) (Φ := F) mixed (sgAt_all (P := Tryd.prog) (pre := R) (Φ := F) (l := sg10) (fcm ⟨m21, fcm ⟨m22, (fun _ h => nomatch h)⟩⟩)) Tryd.func10 b10 n10 (loops_n 0 k10 fun k hk => by omega) e10 fun ds hf _ => ?_
 obtain ⟨x, rfl, hx⟩ := fits1 hf.flat
 obtain ⟨s, rfl, hs⟩ := wf_str hx
 simp only [vt10, VT.ok, Nd.holds, X.outs, X.ds, X.d, Op1.ev, Op2.ev, takeD_zero, takeD_cons, List.cons_append, List.nil_append, gz0, gs0, D.int_i, D.bool_b, D.str_s, ite_b, ite_and, implies_true, true_and, F21, R21, F22, R22, F10, wordD, cS, fn22_eq, kwD, nameD, isName]
 rw [Bool.and_right_comm (!(s == _))]
theorem byte_row (s : ByteArray) {j : Nat} (h : j < s.size) : cI (el (s.data.toList.map fun b => [D.i (b.toNat : Int)]) j) 0 = bt s j := by
 have hd : j < s.data.size := h
 have e : s[j]? = some s.data[j] := by
  rw [getElem?_pos s j h]; rfl
 simp only [el, cI, bt, List.getD, List.getElem?_map, Array.getElem?_toList, Array.getElem?_eq_getElem hd, Option.map_some, Option.getD_some, e, List.getElem?_cons_zero]
 rfl
theorem loopM46_0 : LoopMeets Tryd.prog F (R L46_0.key) L46_0 lb46_0 := by
 refine loop_meets (pre := R) mixed (sgAt_all (P := Tryd.prog) (pre := R) (Φ := F) (l := sg46) ((fun _ h => nomatch h))) (loops_n 0 lk46_0 fun k hk => by omega) L46_0 (fun ρ => ((ρ.getD 2 default).int - (ρ.getD 3 default).int).toNat) le46_0 fun ρ _ hq => ?_
 obtain ⟨v, bs, j, rfl, hj, hm⟩ : prLab ρ := hq
 rw [maxLen_val] at hm
 by_cases hlt : j < bs.length
 ·simp (disch := omega) only [rt46_0, VT.ok, Nd.holds, X.ds, X.d, Op1.ev, Op2.ev, gz0, gs0, D.int_i, D.bool_b, D.lst_l, ite_b, ite_or, tn0, implies_true, true_and, ↓reduceIte, dle_t, dlt_t, w64']
  show if (decide (cI (el bs j) 0 < 32) || decide (126 < cI (el bs j) 0)) = true then _ else _
  cases hb : (decide (cI (el bs j) 0 < 32) || decide (126 < cI (el bs j) 0))
  ·simp only [fe0, if_false]
   refine round_next ⟨⟨v, bs, j + 1, rfl, by omega, hm⟩, ?_, ?_⟩
   ·show ((bs.length : Int) - ((j + 1 : Nat) : Int)).toNat < ((bs.length : Int) - (j : Int)).toNat
    omega
   ·show lpLab [v, .l bs, .i (bs.length : Int), .i ((j + 1 : Nat) : Int)] = lpLab [v, .l bs, .i (bs.length : Int), .i (j : Int)]
    simp only [lpLab, tn0]
    exact scan_next hlt hb
  ·simp only [if_true]
   refine round_exit (by omega) ?_
   show lpLab [v, .l bs, .i (bs.length : Int), .i (j : Int)] = _
   simp only [lpLab, tn0]
   exact scan_hit hlt hb
 ·have hj' : j = bs.length := by omega
  subst hj'
  simp (disch := omega) only [rt46_0, VT.ok, X.ds, X.d, Op2.ev, gz0, gs0, D.int_i, D.bool_b, fe0, ↓reduceIte, dlt_f]
  refine round_exit (by omega) ?_
  show lpLab [v, .l bs, .i (bs.length : Int), .i (bs.length : Int)] = _
  simp only [lpLab, tn0]
  exact scan_end
theorem m46 : Meets Tryd.prog 46 S46 (R 46) (F 46) := by
 refine meets_of_vt (pre := R) (Φ := F) mixed (sgAt_all (P := Tryd.prog) (pre := R) (Φ := F) (l := sg46) ((fun _ h => nomatch h))) Tryd.func46 b46 n46 (loops_n 1 k46 fun k hk => match k, hk with | 0, _ => loop_this lf46_0 loopM46_0) e46 fun ds hf _ => ?_
 obtain ⟨x, rfl, hx⟩ := fits1 hf.flat
 obtain ⟨s, rfl, hs⟩ := wf_str hx
 have hlen : (s.data.toList.map fun b => [D.i (b.toNat : Int)]).length = s.size := by simp
 have hpre : prLab [.i 0, .l (s.data.toList.map fun b => [D.i (b.toNat : Int)]), .i (s.size : Int), .i 0] := ⟨.i 0, _, 0, by rw [hlen]; rfl, by omega, by rw [hlen]; exact hs⟩
 have hany : anyN (fun j => decide (cI (el (s.data.toList.map fun b => [D.i (b.toNat : Int)]) j) 0 < 32) || decide (126 < cI (el (s.data.toList.map fun b => [D.i (b.toNat : Int)]) j) 0)) s.size = anyN (lblP s) s.size := anyN_congr fun k hk => by
  rw [byte_row s hk]; rfl
 by_cases h : 32 < (s.size : Int)
 ·simp (disch := omega) only [vt46, VT.ok, X.ds, X.d, Op1.ev, Op2.ev, gz0, D.int_i, D.bool_b, D.str_s, F46, ↓reduceIte, dlt_t, labelD, labelE, cS, if_pos h]
 ·simp (disch := omega) only [vt46, VT.ok, Nd.holds, X.outs, X.ds, X.d, Op1.ev, Op2.ev, List.cons_append, List.nil_append, gz0, gs0, D.int_i, D.bool_b, D.lst_l, D.str_s, fe0, F14600, R14600, F46, ↓reduceIte, dlt_f, labelD, labelE, cS, hlen, if_neg h]
  refine ⟨fun _ => hpre, ?_⟩
  simp only [lpLab, hlen, Int.toNat_zero, Nat.sub_zero]
  rcases scan_two (p := fun j => decide (cI (el (s.data.toList.map fun b => [D.i (b.toNat : Int)]) j) 0 < 32) || decide (126 < cI (el (s.data.toList.map fun b => [D.i (b.toNat : Int)]) j) 0)) s.size with ⟨h1, j, _, _, _, h⟩ | ⟨h1, h⟩
  ·rw [hany] at h1
   simp only [h, plainB, h1]; rfl
  ·rw [hany] at h1
   simp only [h, plainB, h1]; rfl
theorem loopM24_0 : LoopMeets Tryd.prog F (R L24_0.key) L24_0 lb24_0 := by
 refine loop_meets (pre := R) mixed (sgAt_all (P := Tryd.prog) (pre := R) (Φ := F) (l := sg24) ((fun _ h => nomatch h))) (loops_n 0 lk24_0 fun k hk => by omega) L24_0 (fun ρ => (((ρ.getD 0 default).str.size : Int) - (ρ.getD 2 default).int).toNat) le24_0 fun ρ _ hq => ?_
 obtain ⟨s, v, j, rfl, hj, hm⟩ : prPlain ρ := hq
 rw [maxLen_val] at hm
 by_cases hlt : j < s.size
 ·simp (disch := omega) only [rt24_0, VT.ok, Nd.holds, X.ds, X.d, Op1.ev, Op2.ev, gz0, gs0, D.int_i, D.bool_b, D.str_s, ite_b, ite_or, tn0, implies_true, true_and, ↓reduceIte, dle_t, dlt_t, w64']
  show if lblP s j = true then _ else _
  cases hb : lblP s j
  ·simp only [fe0, if_false]
   refine round_next ⟨⟨s, v, j + 1, rfl, by omega, hm⟩, ?_, ?_⟩
   ·show ((s.size : Int) - ((j + 1 : Nat) : Int)).toNat < ((s.size : Int) - (j : Int)).toNat
    omega
   ·show lpPlain [.s s, v, .i ((j + 1 : Nat) : Int)] = lpPlain [.s s, v, .i (j : Int)]
    simp only [lpPlain, tn0]
    exact scan_next hlt hb
  ·simp only [if_true]
   refine round_exit (by omega) ?_
   show lpPlain [.s s, v, .i (j : Int)] = _
   simp only [lpPlain, tn0]
   exact scan_hit hlt hb
 ·have hj' : j = s.size := by omega
  subst hj'
  simp (disch := omega) only [rt24_0, VT.ok, X.ds, X.d, Op1.ev, Op2.ev, gz0, gs0, D.int_i, D.bool_b, D.str_s, fe0, ↓reduceIte, dlt_f]
  refine round_exit (by omega) ?_
  show lpPlain [.s s, v, .i (s.size : Int)] = _
  simp only [lpPlain, tn0]
  exact scan_end
theorem m24 : Meets Tryd.prog 24 S24 (R 24) (F 24) := by
 refine meets_of_vt (pre := R) (Φ := F) mixed (sgAt_all (P := Tryd.prog) (pre := R) (Φ := F) (l := sg24) ((fun _ h => nomatch h))) Tryd.func24 b24 n24 (loops_n 1 k24 fun k hk => match k, hk with | 0, _ => loop_this lf24_0 loopM24_0) e24 fun ds hf _ => ?_
 obtain ⟨x, rfl, hx⟩ := fits1 hf.flat
 obtain ⟨s, rfl, hs⟩ := wf_str hx
 have hpre : prPlain [.s s, .b false, .i 0] := ⟨s, _, 0, rfl, by omega, hs⟩
 simp (disch := omega) only [vt24, VT.ok, Nd.holds, X.outs, X.ds, X.d, Op2.ev, List.cons_append, List.nil_append, gz0, gs0, D.int_i, D.bool_b, D.str_s, F12400, R12400, F24, plainD, cS]
 refine ⟨fun _ => hpre, ?_⟩
 simp only [lpPlain, Int.toNat_zero, Nat.sub_zero]
 rcases scan_two (p := lblP s) s.size with ⟨h1, j, _, _, _, h⟩ | ⟨h1, h⟩
 ·simp only [h, plainB, h1]; rfl
 ·simp only [h, plainB, h1]; rfl
theorem fn47_eq (ds : List D) : fn47 ds = sizedD ds := by
 show [if decide (1 ≤ cI ds 0) = true then D.b (decide (cI ds 0 ≤ 1048576)) else D.b false] = _
 simp only [ite_b, ite_and]
 rfl
end Go.Proofs.YtinaaabmmjpijaaDoor.rv
namespace Go.Proofs.YtinaaabmmjpijaaDoor.rv
set_option maxRecDepth 10000
open Go.RV
theorem fn64_eq (ds cap : List D) (h : ds.length = 6) (h' : cap.length = 1) : fn64 (ds ++ [.p cap]) = dyNm (.c 64 [.pt [.str]] [.p cap] :: ds) := by
 match ds, h, cap, h' with
 | [a0, a1, a2, a3, a4, a5], _, [b0], _ => rfl
theorem m20047 : Meets Tryd.prog 20047 S20047 (R 20047) (F 20047) := by
 refine meets_dyn (by decide) rfl fun d ds hf hp => ?_
 obtain ⟨cap, bs, e, hc, ha⟩ : dpNm 64 [.str] 1 6 (d :: ds) := hp
 cases e
 exact ⟨64, [.pt [.str]], [.p cap], S64, _, fn64, rfl, by decide, m64, rfl, rfl, trivial, fn64_eq _ cap ha hc⟩
theorem fn66_eq (ds cap : List D) (h : ds.length = 2) (h' : cap.length = 2) : fn66 (ds ++ [.p cap]) = dyNm (.c 66 [.pt [.str, .int .i64]] [.p cap] :: ds) := by
 match ds, h, cap, h' with
 | [a0, a1], _, [b0, b1], _ => rfl
theorem m20049 : Meets Tryd.prog 20049 S20049 (R 20049) (F 20049) := by
 refine meets_dyn (by decide) rfl fun d ds hf hp => ?_
 obtain ⟨cap, bs, e, hc, ha⟩ : dpNm 66 [.str, .int .i64] 2 2 (d :: ds) := hp
 cases e
 exact ⟨66, [.pt [.str, .int .i64]], [.p cap], S66, _, fn66, rfl, by decide, m66, rfl, rfl, trivial, fn66_eq _ cap ha hc⟩
theorem fn50_eq (ds cap : List D) (h : ds.length = 2) (h' : cap.length = 2) : fn50 (ds ++ [.p cap]) = dyNm (.c 50 [.pt [.str, .int .i64]] [.p cap] :: ds) := by
 match ds, h, cap, h' with
 | [a0, a1], _, [b0, b1], _ => rfl
theorem m20051 : Meets Tryd.prog 20051 S20051 (R 20051) (F 20051) := by
 refine meets_dyn (by decide) rfl fun d ds hf hp => ?_
 obtain ⟨cap, bs, e, hc, ha⟩ : dpNm 50 [.str, .int .i64] 2 2 (d :: ds) := hp
 cases e
 exact ⟨50, [.pt [.str, .int .i64]], [.p cap], S50, _, fn50, rfl, by decide, m50, rfl, rfl, trivial, fn50_eq _ cap ha hc⟩
theorem loopM63_0 : LoopMeets Tryd.prog F (R L63_0.key) L63_0 lb63_0 := by
 refine loop_meets (pre := R) mixed (sgAt_all (P := Tryd.prog) (pre := R) (Φ := F) (l := sg63) (fcm ⟨m20047, (fun _ h => nomatch h)⟩)) (loops_n 0 lk63_0 fun k hk => by omega) L63_0 (fun ρ => ((ρ.getD 3 default).int - (ρ.getD 4 default).int).toNat) le63_0 fun ρ _ hq => ?_
 obtain ⟨xs, c, v, j, rfl, hj, hm, hp⟩ : ixPr (dpNm 64 [.str] 1 6) 6 ρ := hq
 rw [maxLen_val] at hm
 by_cases hlt : j < xs.length
 ·simp (disch := omega) only [rt63_0, VT.ok, Nd.holds, X.outs, X.ds, X.d, Op1.ev, Op2.ev, List.cons_append, List.nil_append, gz0, gs0, D.int_i, D.bool_b, D.lst_l, tn0, implies_true, true_and, takeD1_0, F20047, R20047, ↓reduceIte, dle_t, dlt_t, w64']
  refine ⟨fun _ => hp j hlt, ?_⟩
  show if ((dyNm (c :: cellsN 6 (el xs j))).getD 0 default).bool = true then _ else _
  cases hb : ((dyNm (c :: cellsN 6 (el xs j))).getD 0 default).bool
  ·simp only [fe0, if_false]
   refine round_next ⟨⟨xs, c, v, j + 1, rfl, by omega, hm, hp⟩, ?_, ?_⟩
   ·show ((xs.length : Int) - ((j + 1 : Nat) : Int)).toNat < ((xs.length : Int) - (j : Int)).toNat
    omega
   ·show ixLp dyNm 6 [.l xs, c, v, .i (xs.length : Int), .i ((j + 1 : Nat) : Int)] = ixLp dyNm 6 [.l xs, c, v, .i (xs.length : Int), .i (j : Int)]
    simp only [ixLp, tn0]
    exact scan_next hlt hb
  ·simp only [if_true]
   refine round_exit (by omega) ?_
   show ixLp dyNm 6 [.l xs, c, v, .i (xs.length : Int), .i (j : Int)] = _
   simp only [ixLp, tn0]
   exact scan_hit hlt hb
 ·have hj' : j = xs.length := by omega
  subst hj'
  simp (disch := omega) only [rt63_0, VT.ok, X.ds, X.d, Op2.ev, gz0, gs0, D.int_i, D.bool_b, fe0, ↓reduceIte, dlt_f]
  refine round_exit (by omega) ?_
  show ixLp dyNm 6 [.l xs, c, v, .i (xs.length : Int), .i (xs.length : Int)] = _
  simp only [ixLp, tn0]
  exact scan_end
theorem m63 : Meets Tryd.prog 63 S63 (R 63) (F 63) := by
 refine meets_of_vt (pre := R) (Φ := F) mixed (sgAt_all (P := Tryd.prog) (pre := R) (Φ := F) (l := sg63) (fcm ⟨m20047, (fun _ h => nomatch h)⟩)) Tryd.func63 b63 n63 (loops_n 1 k63 fun k hk => match k, hk with | 0, _ => loop_this lf63_0 loopM63_0) e63 fun ds hf hq => ?_
 obtain ⟨x, c, rfl, hx, _⟩ := fits2 hf.flat
 obtain ⟨xs, rfl, hm, _⟩ := wf_sl hx
 have hq : ∀ i, i < xs.length → (dpNm 64 [.str] 1 6) (c :: cellsN 6 (el xs i)) := hq
 have hpre : ixPr (dpNm 64 [.str] 1 6) 6 [.l xs, c, .i 0, .i (xs.length : Int), .i 0] := ⟨xs, c, .i 0, 0, rfl, by omega, hm, hq⟩
 simp only [vt63, VT.ok, Nd.holds, X.outs, X.ds, X.d, Op1.ev, Op2.ev, List.cons_append, List.nil_append, gz0, gs0, D.int_i, D.bool_b, D.lst_l, F16300, R16300, F63]
 refine ⟨fun _ => hpre, ?_⟩
 simp only [ixLp, ixFn, Int.toNat_zero, Nat.sub_zero, scan_fs, ixI, cL, gz0, gs0, D.lst_l]
 split <;> rfl
theorem loopM79_0 : LoopMeets Tryd.prog F (R L79_0.key) L79_0 lb79_0 := by
 refine loop_meets (pre := R) mixed (sgAt_all (P := Tryd.prog) (pre := R) (Φ := F) (l := sg79) (fcm ⟨m20049, (fun _ h => nomatch h)⟩)) (loops_n 0 lk79_0 fun k hk => by omega) L79_0 (fun ρ => ((ρ.getD 3 default).int - (ρ.getD 4 default).int).toNat) le79_0 fun ρ _ hq => ?_
 obtain ⟨xs, c, v, j, rfl, hj, hm, hp⟩ : ixPr (dpNm 66 [.str, .int .i64] 2 2) 2 ρ := hq
 rw [maxLen_val] at hm
 by_cases hlt : j < xs.length
 ·simp (disch := omega) only [rt79_0, VT.ok, Nd.holds, X.outs, X.ds, X.d, Op1.ev, Op2.ev, List.cons_append, List.nil_append, gz0, gs0, D.int_i, D.bool_b, D.lst_l, tn0, implies_true, true_and, takeD1_0, F20049, R20049, ↓reduceIte, dle_t, dlt_t, w64']
  refine ⟨fun _ => hp j hlt, ?_⟩
  show if ((dyNm (c :: cellsN 2 (el xs j))).getD 0 default).bool = true then _ else _
  cases hb : ((dyNm (c :: cellsN 2 (el xs j))).getD 0 default).bool
  ·simp only [fe0, if_false]
   refine round_next ⟨⟨xs, c, v, j + 1, rfl, by omega, hm, hp⟩, ?_, ?_⟩
   ·show ((xs.length : Int) - ((j + 1 : Nat) : Int)).toNat < ((xs.length : Int) - (j : Int)).toNat
    omega
   ·show ixLp dyNm 2 [.l xs, c, v, .i (xs.length : Int), .i ((j + 1 : Nat) : Int)] = ixLp dyNm 2 [.l xs, c, v, .i (xs.length : Int), .i (j : Int)]
    simp only [ixLp, tn0]
    exact scan_next hlt hb
  ·simp only [if_true]
   refine round_exit (by omega) ?_
   show ixLp dyNm 2 [.l xs, c, v, .i (xs.length : Int), .i (j : Int)] = _
   simp only [ixLp, tn0]
   exact scan_hit hlt hb
 ·have hj' : j = xs.length := by omega
  subst hj'
  simp (disch := omega) only [rt79_0, VT.ok, X.ds, X.d, Op2.ev, gz0, gs0, D.int_i, D.bool_b, fe0, ↓reduceIte, dlt_f]
  refine round_exit (by omega) ?_
  show ixLp dyNm 2 [.l xs, c, v, .i (xs.length : Int), .i (xs.length : Int)] = _
  simp only [ixLp, tn0]
  exact scan_end
theorem m79 : Meets Tryd.prog 79 S79 (R 79) (F 79) := by
 refine meets_of_vt (pre := R) (Φ := F) mixed (sgAt_all (P := Tryd.prog) (pre := R) (Φ := F) (l := sg79) (fcm ⟨m20049, (fun _ h => nomatch h)⟩)) Tryd.func79 b79 n79 (loops_n 1 k79 fun k hk => match k, hk with | 0, _ => loop_this lf79_0 loopM79_0) e79 fun ds hf hq => ?_
 obtain ⟨x, c, rfl, hx, _⟩ := fits2 hf.flat
 obtain ⟨xs, rfl, hm, _⟩ := wf_sl hx
 have hq : ∀ i, i < xs.length → (dpNm 66 [.str, .int .i64] 2 2) (c :: cellsN 2 (el xs i)) := hq
 have hpre : ixPr (dpNm 66 [.str, .int .i64] 2 2) 2 [.l xs, c, .i 0, .i (xs.length : Int), .i 0] := ⟨xs, c, .i 0, 0, rfl, by omega, hm, hq⟩
 simp only [vt79, VT.ok, Nd.holds, X.outs, X.ds, X.d, Op1.ev, Op2.ev, List.cons_append, List.nil_append, gz0, gs0, D.int_i, D.bool_b, D.lst_l, F17900, R17900, F79]
 refine ⟨fun _ => hpre, ?_⟩
 simp only [ixLp, ixFn, Int.toNat_zero, Nat.sub_zero, scan_fs, ixI, cL, gz0, gs0, D.lst_l]
 split <;> rfl
theorem loopM67_0 : LoopMeets Tryd.prog F (R L67_0.key) L67_0 lb67_0 := by
 refine loop_meets (pre := R) mixed (sgAt_all (P := Tryd.prog) (pre := R) (Φ := F) (l := sg67) (fcm ⟨m20051, (fun _ h => nomatch h)⟩)) (loops_n 0 lk67_0 fun k hk => by omega) L67_0 (fun ρ => ((ρ.getD 3 default).int - (ρ.getD 4 default).int).toNat) le67_0 fun ρ _ hq => ?_
 obtain ⟨xs, c, v, j, rfl, hj, hm, hp⟩ : ixPr (dpNm 50 [.str, .int .i64] 2 2) 2 ρ := hq
 rw [maxLen_val] at hm
 by_cases hlt : j < xs.length
 ·simp (disch := omega) only [rt67_0, VT.ok, Nd.holds, X.outs, X.ds, X.d, Op1.ev, Op2.ev, List.cons_append, List.nil_append, gz0, gs0, D.int_i, D.bool_b, D.lst_l, tn0, implies_true, true_and, takeD1_0, F20051, R20051, ↓reduceIte, dle_t, dlt_t, w64']
  refine ⟨fun _ => hp j hlt, ?_⟩
  show if ((dyNm (c :: cellsN 2 (el xs j))).getD 0 default).bool = true then _ else _
  cases hb : ((dyNm (c :: cellsN 2 (el xs j))).getD 0 default).bool
  ·simp only [fe0, if_false]
   refine round_next ⟨⟨xs, c, v, j + 1, rfl, by omega, hm, hp⟩, ?_, ?_⟩
   ·show ((xs.length : Int) - ((j + 1 : Nat) : Int)).toNat < ((xs.length : Int) - (j : Int)).toNat
    omega
   ·show ixLp dyNm 2 [.l xs, c, v, .i (xs.length : Int), .i ((j + 1 : Nat) : Int)] = ixLp dyNm 2 [.l xs, c, v, .i (xs.length : Int), .i (j : Int)]
    simp only [ixLp, tn0]
    exact scan_next hlt hb
  ·simp only [if_true]
   refine round_exit (by omega) ?_
   show ixLp dyNm 2 [.l xs, c, v, .i (xs.length : Int), .i (j : Int)] = _
   simp only [ixLp, tn0]
   exact scan_hit hlt hb
 ·have hj' : j = xs.length := by omega
  subst hj'
  simp (disch := omega) only [rt67_0, VT.ok, X.ds, X.d, Op2.ev, gz0, gs0, D.int_i, D.bool_b, fe0, ↓reduceIte, dlt_f]
  refine round_exit (by omega) ?_
  show ixLp dyNm 2 [.l xs, c, v, .i (xs.length : Int), .i (xs.length : Int)] = _
  simp only [ixLp, tn0]
  exact scan_end
theorem m67 : Meets Tryd.prog 67 S67 (R 67) (F 67) := by
 refine meets_of_vt (pre := R) (Φ := F) mixed (sgAt_all (P := Tryd.prog) (pre := R) (Φ := F) (l := sg67) (fcm ⟨m20051, (fun _ h => nomatch h)⟩)) Tryd.func67 b67 n67 (loops_n 1 k67 fun k hk => match k, hk with | 0, _ => loop_this lf67_0 loopM67_0) e67 fun ds hf hq => ?_
 obtain ⟨x, c, rfl, hx, _⟩ := fits2 hf.flat
 obtain ⟨xs, rfl, hm, _⟩ := wf_sl hx
 have hq : ∀ i, i < xs.length → (dpNm 50 [.str, .int .i64] 2 2) (c :: cellsN 2 (el xs i)) := hq
 have hpre : ixPr (dpNm 50 [.str, .int .i64] 2 2) 2 [.l xs, c, .i 0, .i (xs.length : Int), .i 0] := ⟨xs, c, .i 0, 0, rfl, by omega, hm, hq⟩
 simp only [vt67, VT.ok, Nd.holds, X.outs, X.ds, X.d, Op1.ev, Op2.ev, List.cons_append, List.nil_append, gz0, gs0, D.int_i, D.bool_b, D.lst_l, F16700, R16700, F67]
 refine ⟨fun _ => hpre, ?_⟩
 simp only [ixLp, ixFn, Int.toNat_zero, Nat.sub_zero, scan_fs, ixI, cL, gz0, gs0, D.lst_l]
 split <;> rfl
theorem m65 : Meets Tryd.prog 65 S65 (R 65) (F 65) := by
 refine meets_of_vt (pre := R) (Φ := F) mixed (sgAt_all (P := Tryd.prog) (pre := R) (Φ := F) (l := sg65) (fcm ⟨m79, (fun _ h => nomatch h)⟩)) Tryd.func65 b65 n65 (loops_n 0 k65 fun k hk => by omega) e65 fun ds hf hq => ?_
 obtain ⟨x, c, rfl, hx, _⟩ := fits2 hf.flat
 simp only [vt65, VT.ok, Nd.holds, X.outs, X.ds, X.d, Op2.ev, takeD_zero, takeD_cons, List.cons_append, List.nil_append, gz0, gs0, D.int_i, D.bool_b, and_true, F79, R79, F65, ixFn, cfFn, ixI_any]
 exact fun _ => hq
theorem m49 : Meets Tryd.prog 49 S49 (R 49) (F 49) := by
 refine meets_of_vt (pre := R) (Φ := F) mixed (sgAt_all (P := Tryd.prog) (pre := R) (Φ := F) (l := sg49) (fcm ⟨m67, (fun _ h => nomatch h)⟩)) Tryd.func49 b49 n49 (loops_n 0 k49 fun k hk => by omega) e49 fun ds hf hq => ?_
 obtain ⟨x, c, rfl, hx, _⟩ := fits2 hf.flat
 simp only [vt49, VT.ok, Nd.holds, X.outs, X.ds, X.d, Op2.ev, takeD_zero, takeD_cons, List.cons_append, List.nil_append, gz0, gs0, D.int_i, D.bool_b, and_true, F67, R67, F49, ixFn, cfFn, ixI_any]
 exact fun _ => hq
theorem loopM91_0 : LoopMeets Tryd.prog F (R L91_0.key) L91_0 lb91_0 := by
 refine loop_meets (pre := R) mixed (sgAt_all (P := Tryd.prog) (pre := R) (Φ := F) (l := sg91) ((fun _ h => nomatch h))) (loops_n 0 lk91_0 fun k hk => by omega) L91_0 (fun ρ => ((ρ.getD 3 default).int - (ρ.getD 4 default).int).toNat) le91_0 fun ρ _ hq => ?_
 obtain ⟨xs, m, v, j, rfl, hj, hm⟩ : iiPr ρ := hq
 rw [maxLen_val] at hm
 by_cases hlt : j < xs.length
 ·simp (disch := omega) only [rt91_0, VT.ok, Nd.holds, X.ds, X.d, Op1.ev, Op2.ev, gz0, gs0, D.int_i, D.bool_b, D.lst_l, tn0, implies_true, true_and, ↓reduceIte, dle_t, dlt_t, w64']
  show if (m == cI (el xs j) 0) = true then _ else _
  cases hb : (m == cI (el xs j) 0)
  ·simp only [fe0, if_false]
   refine round_next ⟨⟨xs, m, v, j + 1, rfl, by omega, hm⟩, ?_, ?_⟩
   ·show ((xs.length : Int) - ((j + 1 : Nat) : Int)).toNat < ((xs.length : Int) - (j : Int)).toNat
    omega
   ·show iiLp [.l xs, .i m, v, .i (xs.length : Int), .i ((j + 1 : Nat) : Int)] = iiLp [.l xs, .i m, v, .i (xs.length : Int), .i (j : Int)]
    simp only [iiLp, tn0]
    exact scan_next hlt hb
  ·simp only [if_true]
   refine round_exit (by omega) ?_
   show iiLp [.l xs, .i m, v, .i (xs.length : Int), .i (j : Int)] = _
   simp only [iiLp, tn0]
   exact scan_hit hlt hb
 ·have hj' : j = xs.length := by omega
  subst hj'
  simp (disch := omega) only [rt91_0, VT.ok, X.ds, X.d, Op2.ev, gz0, gs0, D.int_i, D.bool_b, fe0, ↓reduceIte, dlt_f]
  refine round_exit (by omega) ?_
  show iiLp [.l xs, .i m, v, .i (xs.length : Int), .i (xs.length : Int)] = _
  simp only [iiLp, tn0]
  exact scan_end
theorem m91 : Meets Tryd.prog 91 S91 (R 91) (F 91) := by
 refine meets_of_vt (pre := R) (Φ := F) mixed (sgAt_all (P := Tryd.prog) (pre := R) (Φ := F) (l := sg91) ((fun _ h => nomatch h))) Tryd.func91 b91 n91 (loops_n 1 k91 fun k hk => match k, hk with | 0, _ => loop_this lf91_0 loopM91_0) e91 fun ds hf hq => ?_
 obtain ⟨x, y, rfl, hx, hy⟩ := fits2 hf.flat
 obtain ⟨xs, rfl, hm, _⟩ := wf_sl hx
 obtain ⟨m, rfl, _⟩ := wf_i64 hy
 have hpre : iiPr [.l xs, .i m, .i 0, .i (xs.length : Int), .i 0] := ⟨xs, m, .i 0, 0, rfl, by omega, hm⟩
 simp only [vt91, VT.ok, Nd.holds, X.outs, X.ds, X.d, Op1.ev, Op2.ev, List.cons_append, List.nil_append, gz0, gs0, D.int_i, D.bool_b, D.lst_l, F19100, R19100, F91]
 refine ⟨fun _ => hpre, ?_⟩
 simp only [iiLp, iiFn, Int.toNat_zero, Nat.sub_zero, scan_fs, ixI, cL, cI, gz0, gs0, D.lst_l, D.int_i]
 split <;> rfl
theorem m90 : Meets Tryd.prog 90 S90 (R 90) (F 90) := by
 refine meets_of_vt (pre := R) (Φ := F) mixed (sgAt_all (P := Tryd.prog) (pre := R) (Φ := F) (l := sg90) (fcm ⟨m91, (fun _ h => nomatch h)⟩)) Tryd.func90 b90 n90 (loops_n 0 k90 fun k hk => by omega) e90 fun ds hf hq => ?_
 obtain ⟨x, y, rfl, hx, hy⟩ := fits2 hf.flat
 simp only [vt90, VT.ok, Nd.holds, X.outs, X.ds, X.d, Op2.ev, takeD_zero, takeD_cons, List.cons_append, List.nil_append, gz0, gs0, D.int_i, D.bool_b, implies_true, and_true, F91, R91, F90, iiFn, ciFn, ixI_any]
end Go.Proofs.YtinaaabmmjpijaaDoor.rv
namespace Go.Proofs.YtinaaabmmjpijaaDoor.rv
set_option maxRecDepth 10000
open Go.RV
theorem m45 : Meets Tryd.prog 45 S45 (R 45) (F 45) := by
 refine meets_of_vt (pre := R) (Φ := F) mixed (sgAt_all (P := Tryd.prog) (pre := R) (Φ := F) (l := sg45) (fcm ⟨m63, (fun _ h => nomatch h)⟩)) Tryd.func45 b45 n45 (loops_n 0 k45 fun k hk => by omega) e45 fun ds hf _ => ?_
 obtain ⟨g, ds', rfl, h5, _⟩ := fitsG hf.flat
 obtain ⟨x, rfl, hx⟩ := fits1 h5
 obtain ⟨nm, rfl, _⟩ := wf_str hx
 simp only [vt45, VT.ok, Nd.holds, X.outs, X.ds, X.d, List.cons_append, List.nil_append, gz0, gs0, D.bool_b, takeD1_0, F63, R63, F45]
 exact ⟨fun _ i _ => ⟨[.s nm], cellsN 6 (el g.N i), rfl, rfl, cellsN_length 6 _⟩, rfl⟩
theorem loopM23_0 : LoopMeets Tryd.prog F (R L23_0.key) L23_0 lb23_0 := by
 refine loop_meets (pre := R) mixed (sgAt_all (P := Tryd.prog) (pre := R) (Φ := F) (l := sg23) ((fun _ h => nomatch h))) (loops_n 0 lk23_0 fun k hk => by omega) L23_0 (fun ρ => (((ρ.getD 5 default).lst.length : Int) - (ρ.getD 2 default).int).toNat) le23_0 fun ρ _ hq => ?_
 obtain ⟨nm, v, g, j, rfl, hj, hm⟩ : prFind ρ := hq
 rw [maxLen_val] at hm
 by_cases hlt : j < g.N.length
 ·simp (disch := omega) only [rt23_0, VT.ok, Nd.holds, X.ds, X.d, Op1.ev, Op2.ev, gz0, gs0, D.int_i, D.bool_b, D.lst_l, D.str_s, tn0, implies_true, true_and, ↓reduceIte, dle_t, dlt_t, w64']
  show if nmP g.N nm j = true then _ else _
  cases hb : nmP g.N nm j
  ·simp only [fe0, if_false]
   refine round_next ⟨⟨nm, v, g, j + 1, rfl, by omega, hm⟩, ?_, ?_⟩
   ·show ((g.N.length : Int) - ((j + 1 : Nat) : Int)).toNat < ((g.N.length : Int) - (j : Int)).toNat
    omega
   ·show lpFind [.s nm, v, .i ((j + 1 : Nat) : Int), .s g.nm, .b g.dr, .l g.N, .l g.E, .l g.C] = lpFind [.s nm, v, .i (j : Int), .s g.nm, .b g.dr, .l g.N, .l g.E, .l g.C]
    simp only [lpFind, tn0]
    exact scan_next hlt hb
  ·simp only [if_true]
   refine round_exit (by omega) ?_
   show lpFind [.s nm, v, .i (j : Int), .s g.nm, .b g.dr, .l g.N, .l g.E, .l g.C] = _
   simp only [lpFind, tn0]
   exact scan_hit hlt hb
 ·have hj' : j = g.N.length := by omega
  subst hj'
  simp (disch := omega) only [rt23_0, VT.ok, X.ds, X.d, Op1.ev, Op2.ev, gz0, gs0, D.int_i, D.bool_b, D.lst_l, fe0, ↓reduceIte, dlt_f]
  refine round_exit (by omega) ?_
  show lpFind [.s nm, v, .i (g.N.length : Int), .s g.nm, .b g.dr, .l g.N, .l g.E, .l g.C] = _
  simp only [lpFind, tn0]
  exact scan_end
theorem m23 : Meets Tryd.prog 23 S23 (R 23) (F 23) := by
 refine meets_of_vt (pre := R) (Φ := F) mixed (sgAt_all (P := Tryd.prog) (pre := R) (Φ := F) (l := sg23) ((fun _ h => nomatch h))) Tryd.func23 b23 n23 (loops_n 1 k23 fun k hk => match k, hk with | 0, _ => loop_this lf23_0 loopM23_0) e23 fun ds hf _ => ?_
 obtain ⟨g, ds', rfl, h5, _, ⟨hm, _⟩, _⟩ := fitsG hf.flat
 obtain ⟨x, rfl, hx⟩ := fits1 h5
 obtain ⟨nm, rfl, _⟩ := wf_str hx
 have hpre : prFind [.s nm, .i 0, .i 0, .s g.nm, .b g.dr, .l g.N, .l g.E, .l g.C] := ⟨nm, _, g, 0, rfl, by omega, hm⟩
 simp only [vt23, VT.ok, Nd.holds, X.outs, X.ds, X.d, Op2.ev, List.cons_append, List.nil_append, gz0, gs0, D.int_i, D.bool_b, F12300, R12300, F23]
 refine ⟨fun _ => hpre, ?_⟩
 simp only [lpFind, findD, find, Int.toNat_zero, Nat.sub_zero, scan_fs, ixI, cL, cS, gz0, gs0, D.lst_l, D.str_s]
 split <;> rfl
theorem find_le {N : List (List D)} {i : Nat} (h : i < N.length) : 0 ≤ find N (cS (el N i) 0) ∧ find N (cS (el N i) 0) ≤ i := by
 have h1 : fs (nmP N (cS (el N i) 0)) N.length ≤ i := by
  rcases Nat.lt_or_ge i (fs (nmP N (cS (el N i) 0)) N.length) with h2 | h2
  ·have := fs_min h2
   simp at this
  ·exact h2
 unfold find ixI
 rw [if_pos (by omega)]
 omega
theorem el_take {xs : List (List D)} {i j : Nat} (h : i < j) : el (xs.take j) i = el xs i := by
 simp only [el, List.getD, List.getElem?_take, if_pos h]
theorem any_take {xs : List (List D)} {nm : ByteArray} {j : Nat} (h : j ≤ xs.length) : anyN (nmP (xs.take j) nm) (xs.take j).length = anyN (nmP xs nm) j := by
 rw [List.length_take, Nat.min_eq_left h]
 exact anyN_congr fun k hk => by simp only [nmP, el_take hk]
theorem loopM48_0 : LoopMeets Tryd.prog F (R L48_0.key) L48_0 lb48_0 := by
 refine loop_meets (pre := R) mixed (sgAt_all (P := Tryd.prog) (pre := R) (Φ := F) (l := sg48) (fcm ⟨m29, fcm ⟨m65, (fun _ h => nomatch h)⟩⟩)) (loops_n 0 lk48_0 fun k hk => by omega) L48_0 (fun ρ => ((ρ.getD 3 default).int - (ρ.getD 4 default).int).toNat) le48_0 fun ρ _ hq => ?_
 obtain ⟨xs, v, j, rfl, hj, hm⟩ : prPorts ρ := hq
 rw [maxLen_val] at hm
 by_cases hlt : j < xs.length
 ·have hN : portE xs j = 0 → RoundOk F (R L48_0.key) (fun ρ => ((ρ.getD 3 default).int - (ρ.getD 4 default).int).toNat) L48_0 [.l xs, v, .l xs, .i (xs.length : Int), .i (j : Int)] [.i (-1), v, .i ((j + 1 : Nat) : Int)] := fun h0 => by
   refine round_next ⟨⟨xs, v, j + 1, rfl, by omega, hm⟩, ?_, ?_⟩
   ·show ((xs.length : Int) - ((j + 1 : Nat) : Int)).toNat < ((xs.length : Int) - (j : Int)).toNat
    omega
   ·show lpPorts [.l xs, v, .l xs, .i (xs.length : Int), .i ((j + 1 : Nat) : Int)] = lpPorts [.l xs, v, .l xs, .i (xs.length : Int), .i (j : Int)]
    simp only [lpPorts, errLp, tn0]
    exact scan_next hlt (by simp only [er, h0]; rfl)
  have hX : ∀ z : Int, portE xs j = z → z ≠ 0 → RoundOk F (R L48_0.key) (fun ρ => ((ρ.getD 3 default).int - (ρ.getD 4 default).int).toNat) L48_0 [.l xs, v, .l xs, .i (xs.length : Int), .i (j : Int)] [.i 0, .i z, .i (j : Int)] := fun z h0 hz => by
   refine round_exit (by omega) ?_
   show lpPorts [.l xs, v, .l xs, .i (xs.length : Int), .i (j : Int)] = _
   simp only [lpPorts, errLp, tn0]
   rw [← h0]
   exact scan_hit hlt (by simp only [er, h0]; simpa using hz)
  simp (disch := omega) only [rt48_0, VT.ok, Nd.holds, X.outs, X.ds, X.d, Op1.ev, Op2.ev, takeD_zero, takeD_cons, List.cons_append, List.nil_append, gz0, gs0, D.int_i, D.bool_b, D.lst_l, ite_b, ite_or, tn0, implies_true, true_and, takeD1_0, F29, R29, F65, R65, ↓reduceIte, dle_t, dlt_t, w64', nameD, cS]
  cases h1 : isName (cS (el xs j) 0)
  ·simp only [Bool.not_false, if_true]
   exact hX 5 (by simp only [portE, h1, fe0, if_false]) (by omega)
  ·simp only [Bool.not_true, fe0, if_false]
   refine ⟨fun _ i _ => ⟨_, cellsN 2 _, rfl, rfl, cellsN_length 2 _⟩, ?_⟩
   show if anyN (nmP (xs.take j) (cS (el xs j) 0)) (xs.take j).length = true then _ else _
   rw [any_take hj]
   cases h2 : anyN (nmP xs (cS (el xs j) 0)) j
   ·simp only [fe0, if_false]
    by_cases h3 : cI (el xs j) 1 < 0 ∨ 3 < cI (el xs j) 1
    ·rw [if_pos (by exact dor_t h3)]
     exact hX 7 (by simp only [portE, h1, h2, if_true, fe0, if_false, if_pos h3]) (by omega)
    ·rw [if_neg (by exact dor_f h3)]
     exact hN (by simp only [portE, h1, h2, if_true, fe0, if_false, if_neg h3])
   ·simp only [if_true]
    exact hX 6 (by simp only [portE, h1, h2, if_true]) (by omega)
 ·have hj' : j = xs.length := by omega
  subst hj'
  simp (disch := omega) only [rt48_0, VT.ok, X.ds, X.d, Op2.ev, gz0, gs0, D.int_i, D.bool_b, fe0, ↓reduceIte, dlt_f]
  refine round_exit (by omega) ?_
  show lpPorts [.l xs, v, .l xs, .i (xs.length : Int), .i (xs.length : Int)] = _
  simp only [lpPorts, errLp, tn0]
  exact scan_end
theorem m48 : Meets Tryd.prog 48 S48 (R 48) (F 48) := by
 refine meets_of_vt (pre := R) (Φ := F) mixed (sgAt_all (P := Tryd.prog) (pre := R) (Φ := F) (l := sg48) (fcm ⟨m29, fcm ⟨m65, (fun _ h => nomatch h)⟩⟩)) Tryd.func48 b48 n48 (loops_n 1 k48 fun k hk => match k, hk with | 0, _ => loop_this lf48_0 loopM48_0) e48 fun ds hf _ => ?_
 obtain ⟨x, rfl, hx⟩ := fits1 hf.flat
 obtain ⟨xs, rfl, hm, _⟩ := wf_sl hx
 have hpre : prPorts [.l xs, .i 0, .l xs, .i (xs.length : Int), .i 0] := ⟨xs, _, 0, rfl, by omega, hm⟩
 by_cases h : 8 < (xs.length : Int)
 ·simp (disch := omega) only [vt48, VT.ok, X.ds, X.d, Op1.ev, Op2.ev, gz0, D.int_i, D.bool_b, D.lst_l, F48, ↓reduceIte, dlt_t, ports8D, ports8, cL, if_pos h]
 ·simp (disch := omega) only [vt48, VT.ok, Nd.holds, X.outs, X.ds, X.d, Op1.ev, Op2.ev, List.cons_append, List.nil_append, gz0, gs0, D.int_i, D.bool_b, D.lst_l, fe0, F14800, R14800, F48, ↓reduceIte, dlt_f, ports8D, ports8, cL, if_neg h]
  refine ⟨fun _ => hpre, ?_⟩
  simp only [lpPorts, Int.toNat_zero, portsE]
  rcases errLp_two (portE xs) (.i 0) xs.length with ⟨h1, h2⟩ | ⟨h1, _, h2⟩ <;> simp (disch := omega) only [h1, h2, takeD_zero, takeD_cons, gz0, gs0, D.int_i, fe0, ↓reduceIte, beq_t, beq_f]
theorem loopM25_1 : LoopMeets Tryd.prog F (R L25_1.key) L25_1 lb25_1 := by
 refine loop_meets (pre := R) mixed (sgAt_all (P := Tryd.prog) (pre := R) (Φ := F) (l := sg25) (fcm ⟨m10, (fun _ h => nomatch h)⟩)) (loops_n 0 lk25_1 fun k hk => by omega) L25_1 (fun ρ => ((ρ.getD 2 default).int - (ρ.getD 3 default).int).toNat) le25_1 fun ρ _ hq => ?_
 obtain ⟨xs, v, i, j, rfl, hj, hi, hm⟩ : prPortsI ρ := hq
 rw [maxLen_val] at hm
 by_cases hlt : j < i
 ·simp (disch := omega) only [rt25_1, VT.ok, Nd.holds, X.ds, X.d, Op1.ev, Op2.ev, gz0, gs0, D.int_i, D.bool_b, D.lst_l, tn0, implies_true, true_and, ↓reduceIte, dle_t, dlt_t, w64']
  show if nmP xs (cS (el xs i) 0) j = true then _ else _
  cases hb : nmP xs (cS (el xs i) 0) j
  ·simp only [fe0, if_false]
   refine round_next ⟨⟨xs, v, i, j + 1, rfl, by omega, hi, hm⟩, ?_, ?_⟩
   ·show ((i : Int) - ((j + 1 : Nat) : Int)).toNat < ((i : Int) - (j : Int)).toNat
    omega
   ·show lpPortsI [.l xs, v, .i (i : Int), .i ((j + 1 : Nat) : Int)] = lpPortsI [.l xs, v, .i (i : Int), .i (j : Int)]
    simp only [lpPortsI, tn0]
    exact scan_next hlt hb
  ·simp only [if_true]
   refine round_exit (by omega) ?_
   show lpPortsI [.l xs, v, .i (i : Int), .i (j : Int)] = _
   simp only [lpPortsI, tn0]
   exact scan_hit hlt hb
 ·have hj' : j = i := by omega
  subst hj'
  simp (disch := omega) only [rt25_1, VT.ok, X.ds, X.d, Op2.ev, gz0, gs0, D.int_i, D.bool_b, fe0, ↓reduceIte, dlt_f]
  refine round_exit (by omega) ?_
  show lpPortsI [.l xs, v, .i (j : Int), .i (j : Int)] = _
  simp only [lpPortsI, tn0]
  exact scan_end
theorem loopM25_0 : LoopMeets Tryd.prog F (R L25_0.key) L25_0 lb25_0 := by
 refine loop_meets (pre := R) mixed (sgAt_all (P := Tryd.prog) (pre := R) (Φ := F) (l := sg25) (fcm ⟨m10, (fun _ h => nomatch h)⟩)) (loops_n 1 lk25_0 fun k hk => match k, hk with | 0, _ => by rw [li25_0_0]; exact loop_this lf25_1 loopM25_1) L25_0 (fun ρ => (((ρ.getD 0 default).lst.length : Int) - (ρ.getD 2 default).int).toNat) le25_0 fun ρ _ hq => ?_
 obtain ⟨xs, v, j, rfl, hj, hm⟩ : prPortsR ρ := hq
 rw [maxLen_val] at hm
 by_cases hlt : j < xs.length
 ·have hN : portE xs j = 0 → RoundOk F (R L25_0.key) (fun ρ => (((ρ.getD 0 default).lst.length : Int) - (ρ.getD 2 default).int).toNat) L25_0 [.l xs, v, .i (j : Int)] [.i (-1), v, .i ((j + 1 : Nat) : Int)] := fun h0 => by
   refine round_next ⟨⟨xs, v, j + 1, rfl, by omega, hm⟩, ?_, ?_⟩
   ·show ((xs.length : Int) - ((j + 1 : Nat) : Int)).toNat < ((xs.length : Int) - (j : Int)).toNat
    omega
   ·show lpPortsR [.l xs, v, .i ((j + 1 : Nat) : Int)] = lpPortsR [.l xs, v, .i (j : Int)]
    simp only [lpPortsR, errLp, tn0]
    exact scan_next hlt (by simp only [er, h0]; rfl)
  have hX : ∀ z : Int, portE xs j = z → z ≠ 0 → RoundOk F (R L25_0.key) (fun ρ => (((ρ.getD 0 default).lst.length : Int) - (ρ.getD 2 default).int).toNat) L25_0 [.l xs, v, .i (j : Int)] [.i 0, .i z, .i (j : Int)] := fun z h0 hz => by
   refine round_exit (by omega) ?_
   show lpPortsR [.l xs, v, .i (j : Int)] = _
   simp only [lpPortsR, errLp, tn0]
   rw [← h0]
   exact scan_hit hlt (by simp only [er, h0]; simpa using hz)
  have hpre : prPortsI [.l xs, v, .i (j : Int), .i 0] := ⟨xs, v, j, 0, rfl, by omega, hlt, by rw [maxLen_val]; omega⟩
  simp (disch := omega) only [rt25_0, VT.ok, Nd.holds, X.outs, X.ds, X.d, Op1.ev, Op2.ev, takeD_zero, takeD_cons, List.cons_append, List.nil_append, gz0, gs0, D.int_i, D.bool_b, D.lst_l, ite_b, ite_or, tn0, implies_true, true_and, F10, R10, F12500, R12500, ↓reduceIte, dle_t, dlt_t, w64', nameD, cS, lpPortsI, tn0, Int.toNat_zero, Nat.sub_zero]
  cases h1 : isName (cS (el xs j) 0)
  ·simp only [Bool.not_false, if_true]
   exact hX 5 (by simp only [portE, h1, fe0, if_false]) (by omega)
  ·simp only [Bool.not_true, fe0, if_false]
   refine ⟨fun _ => hpre, ?_⟩
   rcases scan_two (p := nmP xs (cS (el xs j) 0)) j with ⟨h2, k, _, _, _, h⟩ | ⟨h2, h⟩
   ·simp only [h, takeD_zero, takeD_cons, gz0, gs0, D.int_i, ↓reduceIte, beq_t]
    exact hX 6 (by simp only [portE, h1, h2, if_true]) (by omega)
   ·simp (disch := omega) only [h, takeD_zero, takeD_cons, gz0, gs0, D.int_i, fe0, ↓reduceIte, beq_f]
    by_cases h3 : cI (el xs j) 1 < 0 ∨ 3 < cI (el xs j) 1
    ·rw [if_pos (by exact dor_t h3)]
     exact hX 7 (by simp only [portE, h1, h2, if_true, fe0, if_false, if_pos h3]) (by omega)
    ·rw [if_neg (by exact dor_f h3)]
     exact hN (by simp only [portE, h1, h2, if_true, fe0, if_false, if_neg h3])
 ·have hj' : j = xs.length := by omega
  subst hj'
  simp (disch := omega) only [rt25_0, VT.ok, X.ds, X.d, Op1.ev, Op2.ev, gz0, gs0, D.int_i, D.bool_b, D.lst_l, fe0, ↓reduceIte, dlt_f]
  refine round_exit (by omega) ?_
  show lpPortsR [.l xs, v, .i (xs.length : Int)] = _
  simp only [lpPortsR, errLp, tn0]
  exact scan_end
theorem m25 : Meets Tryd.prog 25 S25 (R 25) (F 25) := by
 refine meets_of_vt (pre := R) (Φ := F) mixed (sgAt_all (P := Tryd.prog) (pre := R) (Φ := F) (l := sg25) (fcm ⟨m10, (fun _ h => nomatch h)⟩)) Tryd.func25 b25 n25 (loops_n 2 k25 fun k hk => match k, hk with | 0, _ => loop_this lf25_0 loopM25_0 | 1, _ => loop_this lf25_1 loopM25_1) e25 fun ds hf _ => ?_
 obtain ⟨x, rfl, hx⟩ := fits1 hf.flat
 obtain ⟨xs, rfl, hm, _⟩ := wf_sl hx
 have hpre : prPortsR [.l xs, .i 0, .i 0] := ⟨xs, _, 0, rfl, by omega, hm⟩
 simp (disch := omega) only [vt25, VT.ok, Nd.holds, X.outs, X.ds, X.d, Op2.ev, List.cons_append, List.nil_append, gz0, gs0, D.int_i, D.bool_b, D.lst_l, F12501, R12501, F25, portsD, cL]
 refine ⟨fun _ => hpre, ?_⟩
 simp only [lpPortsR, Int.toNat_zero, portsE]
 rcases errLp_two (portE xs) (.i 0) xs.length with ⟨h1, h2⟩ | ⟨h1, _, h2⟩ <;> simp (disch := omega) only [h1, h2, takeD_zero, takeD_cons, gz0, gs0, D.int_i, fe0, ↓reduceIte, beq_t, beq_f]
end Go.Proofs.YtinaaabmmjpijaaDoor.rv
namespace Go.Proofs.YtinaaabmmjpijaaDoor.rv
set_option maxRecDepth 10000
open Go.RV
theorem if4 (a b c d : Bool) (p : Int) : if (!a || !b || c || d) = true then [D.i 3] = [D.i (if (a && b && !c && !d) = true then p else 3)] else [D.i p] = [D.i (if (a && b && !c && !d) = true then p else 3)] := by
 cases a <;> cases b <;> cases c <;> cases d <;> rfl
theorem m30 : Meets Tryd.prog 30 S30 (R 30) (F 30) := by
 refine meets_of_vt (pre := R) (Φ := F) mixed (sgAt_all (P := Tryd.prog) (pre := R) (Φ := F) (l := sg30) (fcm ⟨m29, fcm ⟨m45, fcm ⟨m46, fcm ⟨m47, fcm ⟨m48, (fun _ h => nomatch h)⟩⟩⟩⟩⟩)) Tryd.func30 b30 n30 (loops_n 0 k30 fun k hk => by omega) e30 fun ds hf hq => ?_
 obtain ⟨g, ds', rfl, h5, _, ⟨hmN, hN⟩, _⟩ := fitsG hf.flat
 obtain ⟨x, rfl, hx⟩ := fits1 h5
 obtain ⟨i, e, hi⟩ : prNode (.s g.nm :: .b g.dr :: .l g.N :: .l g.E :: .l g.C :: [x]) := hq
 have e : x = .i (i : Int) := e
 subst e
 have hi : i < g.N.length := hi
 simp (disch := omega) only [vt30, VT.ok, Nd.holds, X.outs, X.ds, X.d, Op1.ev, Op2.ev, takeD_zero, takeD_cons, List.cons_append, List.nil_append, gz0, gs0, D.int_i, D.bool_b, D.lst_l, ite_b, ite_or, tn0, implies_true, true_and, F29, R29, F45, R45, F46, R46, F47, R47, F48, R48, F30, dle_t, dlt_t, nameD, findD, labelD, fn47_eq, sizedD, ports8D, nodeD, nodeE, cS, cI, cL, tn0]
 cases h1 : isName (cS (el g.N i) 0)
 ·simp only [Bool.not_false, if_true, fe0, if_false]
 ·simp only [Bool.not_true, if_true, fe0, if_false]
  by_cases h2 : find g.N (cS (el g.N i) 0) < i
  ·rw [if_pos (by exact dec_t h2), if_pos h2]
  ·rw [if_neg (by exact dec_f h2), if_neg h2]
   by_cases h3 : labelE (cS (el g.N i) 1) = 0
   ·rw [if_neg (by exact bne_f h3), if_pos h3]
    exact if4 _ _ _ _ _
   ·rw [if_pos (by exact bne_t h3), if_neg h3]
theorem m11 : Meets Tryd.prog 11 S11 (R 11) (F 11) := by
 refine meets_of_vt (pre := R) (Φ := F) mixed (sgAt_all (P := Tryd.prog) (pre := R) (Φ := F) (l := sg11) (fcm ⟨m10, fcm ⟨m23, fcm ⟨m24, fcm ⟨m25, (fun _ h => nomatch h)⟩⟩⟩⟩)) Tryd.func11 b11 n11 (loops_n 0 k11 fun k hk => by omega) e11 fun ds hf hq => ?_
 obtain ⟨g, ds', rfl, h5, _, ⟨hmN, hN⟩, _⟩ := fitsG hf.flat
 obtain ⟨x, rfl, hx⟩ := fits1 h5
 obtain ⟨i, e, hi⟩ : prNode (.s g.nm :: .b g.dr :: .l g.N :: .l g.E :: .l g.C :: [x]) := hq
 have e : x = .i (i : Int) := e
 subst e
 have hi : i < g.N.length := hi
 have hfl := find_le hi
 have hF : F 11 (.s g.nm :: .b g.dr :: .l g.N :: .l g.E :: .l g.C :: [.i (i : Int)]) = [.i (nodeE g.N g.C i)] := rfl
 rw [hF]
 generalize hv : nodeE g.N g.C i = res
 unfold nodeE at hv
 simp (disch := omega) only [vt11, VT.ok, Nd.holds, X.outs, X.ds, X.d, Op1.ev, Op2.ev, takeD_zero, takeD_cons, List.cons_append, List.nil_append, gz0, gs0, D.int_i, D.bool_b, D.lst_l, ite_b, ite_or, tn0, implies_true, true_and, F10, R10, F23, R23, F24, R24, F25, R25, dle_t, dlt_t, nameD, findD, plainD, portsD, cS, cL, tn0]
 cases h1 : isName (cS (el g.N i) 0)
 ·rw [h1] at hv
  simp only [Bool.not_false, if_true]
  rw [← hv]; rfl
 ·simp only [h1, if_true] at hv
  simp only [Bool.not_true, fe0, if_false]
  by_cases h2 : find g.N (cS (el g.N i) 0) < i
  ·rw [if_pos h2] at hv
   have h2' : find g.N (cS (el g.N i) 0) ≠ i := by omega
   rw [if_pos (by exact bne_t h2'), ← hv]
  ·rw [if_neg h2] at hv
   have h2' : find g.N (cS (el g.N i) 0) = i := by omega
   rw [if_neg (by exact bne_f h2')]
   by_cases h4 : 32 < ((cS (el g.N i) 1).size : Int)
   ·have h3 : labelE (cS (el g.N i) 1) = 2 := by rw [labelE, if_pos h4]
    rw [h3, if_neg (by decide)] at hv
    rw [if_pos (by exact dec_t h4), ← hv]
   ·rw [if_neg (by exact dec_f h4)]
    cases h6 : plainB (cS (el g.N i) 1)
    ·have h3 : labelE (cS (el g.N i) 1) = 7 := by rw [labelE, if_neg h4, h6]; rfl
     rw [h3, if_neg (by decide)] at hv
     simp only [Bool.not_false, if_true]
     rw [← hv]
    ·have h3 : labelE (cS (el g.N i) 1) = 0 := by rw [labelE, if_neg h4, h6]; rfl
     rw [h3, if_pos rfl] at hv
     simp only [Bool.not_true, fe0, if_false]
     have f : ∀ x : Int, sizedB x = !(decide (x < 1) || decide (1048576 < x)) := fun x => by
      unfold sizedB
      rw [Bool.not_or, ← decide_not, ← decide_not]
      congr 1 <;> exact decide_eq_decide.2 (by omega)
     have e : (sizedB (cI (el g.N i) 2) && sizedB (cI (el g.N i) 3) && !decide (cI (el g.N i) 4 < -1) && !decide ((g.C.length : Int) ≤ cI (el g.N i) 4)) = !(((((decide (cI (el g.N i) 2 < 1) || decide (1048576 < cI (el g.N i) 2)) || decide (cI (el g.N i) 3 < 1)) || decide (1048576 < cI (el g.N i) 3)) || decide (cI (el g.N i) 4 < -1)) || decide ((g.C.length : Int) ≤ cI (el g.N i) 4)) := by
      rw [f, f]
      simp only [Bool.not_or, Bool.and_assoc]
     rw [e] at hv
     cases hc : (((((decide (cI (el g.N i) 2 < 1) || decide (1048576 < cI (el g.N i) 2)) || decide (cI (el g.N i) 3 < 1)) || decide (1048576 < cI (el g.N i) 3)) || decide (cI (el g.N i) 4 < -1)) || decide ((g.C.length : Int) ≤ cI (el g.N i) 4))
     ·rw [hc] at hv
      rw [if_neg (by first | exact ne_true_of_eq_false hc | decide)]
      have hv : ports8 (cL (el g.N i) 5) = res := hv
      by_cases h8 : 8 < ((cL (el g.N i) 5).length : Int)
      ·rw [ports8, if_pos h8] at hv
       rw [if_pos (by exact dec_t h8), ← hv]
      ·rw [ports8, if_neg h8] at hv
       rw [if_neg (by exact dec_f h8), ← hv]
     ·rw [hc] at hv
      rw [if_pos (by first | exact hc | rfl), ← hv]; rfl
end Go.Proofs.YtinaaabmmjpijaaDoor.rv
namespace Go.Proofs.YtinaaabmmjpijaaDoor.rv
set_option maxRecDepth 10000
open Go.RV
theorem up_fuel {C : List (List D)} : ∀ (f f' : Nat) (c : Int), c < f → c < f' → okC C (c + 1).toNat → up C f c = up C f' c
 | 0, 0, _, _, _, _ => rfl
 | 0, f' + 1, c, h, _, _ => by simp only [up]; rw [if_neg (by omega)]
 | f + 1, 0, c, _, h, _ => by simp only [up]; rw [if_neg (by omega)]
 | f + 1, f' + 1, c, h, h', hok => by
  simp only [up]
  by_cases h0 : 0 ≤ c
  ·rw [if_pos h0, if_pos h0]
   have := hok c.toNat (by omega)
   rw [up_fuel f f' _ (by omega) (by omega) (hok.mono (by omega))]
  ·rw [if_neg h0, if_neg h0]
theorem around_neg {C : List (List D)} {c : Int} (h : c < 0) : around C c = [] := by
 unfold around up; rw [if_neg (by omega)]
theorem around_at {C : List (List D)} {c : Int} (h0 : 0 ≤ c) (hok : okC C (c + 1).toNat) : around C c = c :: around C (cI (el C c.toNat) 1) := by
 have hb := hok c.toNat (by omega)
 unfold around
 simp only [up]
 rw [if_pos h0]
 congr 1
 exact up_fuel c.toNat ((cI (el C c.toNat) 1).toNat + 1) (cI (el C c.toNat) 1) (by omega) (by omega) (hok.mono (m := (cI (el C c.toNat) 1 + 1).toNat) (by omega))
theorem atC_up {C : List (List D)} {c : Int} (h : atC C c) (h0 : 0 ≤ c) : atC C (cI (el C c.toNat) 1) := by
 obtain ⟨h1, h2, h3, h4⟩ := h
 have hb := h4 c.toNat (by omega)
 exact ⟨by omega, by omega, h3, h4.mono (m := (cI (el C c.toNat) 1 + 1).toNat) (by omega)⟩
theorem rowI1_of {C : List (List D)} (h : ∀ x ∈ C, FitsF [.str, .int .i64] x) : rowI1 C := fun i hi => by
 have hx := h (el C i) (getD_mem [] hi)
 obtain ⟨a, b, e, _, hb⟩ := fits2 hx
 obtain ⟨z, rfl, _⟩ := wf_i64 hb
 simp only [cI, e]; rfl
theorem loopM68_0 : LoopMeets Tryd.prog F (R L68_0.key) L68_0 lb68_0 := by
 refine loop_meets (pre := R) mixed (sgAt_all (P := Tryd.prog) (pre := R) (Φ := F) (l := sg68) ((fun _ h => nomatch h))) (loops_n 0 lk68_0 fun k hk => by omega) L68_0 (fun ρ => ((ρ.getD 0 default).int + 1).toNat) le68_0 fun ρ _ hq => ?_
 obtain ⟨c, g, acc, rfl, hat, hrow, hacc⟩ : prArL ρ := hq
 have hat0 := hat
 obtain ⟨h1, h2, h3, h4⟩ := hat
 by_cases h0 : 0 ≤ c
 ·have hn : c.toNat < g.C.length := by omega
  have hr : (g.C.getD c.toNat []).getD 1 default = .i (cI (el g.C c.toNat) 1) := hrow _ hn
  have hb := h4 c.toNat (by omega)
  simp (disch := omega) only [rt68_0, VT.ok, Nd.holds, X.ds, X.d, Op1.ev, Op2.ev, gz0, gs0, D.int_i, D.bool_b, D.lst_l, implies_true, true_and, ↓reduceIte, dle_t, dlt_t, hr, List.length_append, List.length_cons, List.length_nil]
  refine round_next ⟨⟨cI (el g.C c.toNat) 1, g, acc ++ [[.i c]], rfl, atC_up hat0 h0, hrow, by rw [List.length_append, List.length_cons, List.length_nil]; omega⟩, ?_, ?_⟩
  ·show (cI (el g.C c.toNat) 1 + 1).toNat < (c + 1).toNat
   omega
  ·show lpAr [.i (cI (el g.C c.toNat) 1), .s g.nm, .b g.dr, .l g.N, .l g.E, .l g.C, .l (acc ++ [[.i c]])] = lpAr [.i c, .s g.nm, .b g.dr, .l g.N, .l g.E, .l g.C, .l acc]
   simp only [lpAr, around_at h0 h4, List.map_cons, List.append_assoc, List.cons_append, List.nil_append]
   rfl
 ·simp (disch := omega) only [rt68_0, VT.ok, X.ds, X.d, Op2.ev, gz0, gs0, D.int_i, D.bool_b, fe0, ↓reduceIte, dle_f]
  refine round_exit (by omega) ?_
  show lpAr [.i c, .s g.nm, .b g.dr, .l g.N, .l g.E, .l g.C, .l acc] = _
  have : c = -1 := by omega
  subst this
  simp only [lpAr, around_neg (show (-1 : Int) < 0 by omega), List.map_nil, List.append_nil]
theorem m68 : Meets Tryd.prog 68 S68 (R 68) (F 68) := by
 refine meets_of_vt (pre := R) (Φ := F) mixed (sgAt_all (P := Tryd.prog) (pre := R) (Φ := F) (l := sg68) ((fun _ h => nomatch h))) Tryd.func68 b68 n68 (loops_n 1 k68 fun k hk => match k, hk with | 0, _ => loop_this lf68_0 loopM68_0) e68 fun ds hf hq => ?_
 obtain ⟨g, ds', rfl, h5, _, _, _, ⟨_, hC⟩⟩ := fitsG hf.flat
 obtain ⟨x, rfl, hx⟩ := fits1 h5
 obtain ⟨c, rfl, _⟩ := wf_i64 hx
 have hq : atC g.C c := hq
 have hpre : prArL [.i c, .s g.nm, .b g.dr, .l g.N, .l g.E, .l g.C, .l []] := ⟨c, g, [], rfl, hq, rowI1_of hC, by have := hq.1; have := hq.2.1; have := hq.2.2.1; simp; omega⟩
 simp only [vt68, VT.ok, Nd.holds, X.outs, X.ds, X.d, takeD_zero, takeD_cons, List.cons_append, List.nil_append, gz0, gs0, D.int_i, D.bool_b, D.lst_l, and_true, F16800, R16800, F68, lpAr, aroundD, cL, cI]
 exact fun _ => hpre
theorem m51 : Meets Tryd.prog 51 S51 (R 51) (F 51) := by
 refine meets_of_vt (pre := R) (Φ := F) mixed (sgAt_all (P := Tryd.prog) (pre := R) (Φ := F) (l := sg51) (fcm ⟨m68, (fun _ h => nomatch h)⟩)) Tryd.func51 b51 n51 (loops_n 0 k51 fun k hk => by omega) e51 fun ds hf hq => ?_
 obtain ⟨g, ds', rfl, h5, _⟩ := fitsG hf.flat
 obtain ⟨x, rfl, hx⟩ := fits1 h5
 simp only [vt51, VT.ok, Nd.holds, X.outs, X.ds, X.d, Op1.ev, takeD_zero, takeD_cons, List.cons_append, List.nil_append, gz0, gs0, D.bool_b, D.lst_l, lm0, and_true, F68, R68, F51, aroundD, depthD, depth, cL, cI]
 exact fun _ => hq
theorem depth_at {C : List (List D)} {c : Int} (h0 : 0 ≤ c) (hok : okC C (c + 1).toNat) : depth C c = depth C (cI (el C c.toNat) 1) + 1 := by
 unfold depth; rw [around_at h0 hok]; simp
theorem depth_neg {C : List (List D)} {c : Int} (h : c < 0) : depth C c = 0 := by unfold depth; rw [around_neg h]; rfl
theorem loopM26_0 : LoopMeets Tryd.prog F (R L26_0.key) L26_0 lb26_0 := by
 refine loop_meets (pre := R) mixed (sgAt_all (P := Tryd.prog) (pre := R) (Φ := F) (l := sg26) ((fun _ h => nomatch h))) (loops_n 0 lk26_0 fun k hk => by omega) L26_0 (fun ρ => ((ρ.getD 0 default).int + 1).toNat) le26_0 fun ρ _ hq => ?_
 obtain ⟨c, n, g, rfl, hat, hrow, hn0, hacc⟩ : prDep ρ := hq
 have hat0 := hat
 obtain ⟨h1, h2, h3, h4⟩ := hat
 by_cases h0 : 0 ≤ c
 ·have hn : c.toNat < g.C.length := by omega
  have hr : (g.C.getD c.toNat []).getD 1 default = .i (cI (el g.C c.toNat) 1) := hrow _ hn
  have hb := h4 c.toNat (by omega)
  simp (disch := omega) only [rt26_0, VT.ok, Nd.holds, X.ds, X.d, Op1.ev, Op2.ev, gz0, gs0, D.int_i, D.bool_b, D.lst_l, implies_true, true_and, ↓reduceIte, dle_t, dlt_t, w64', hr]
  refine round_next ⟨⟨cI (el g.C c.toNat) 1, n + 1, g, rfl, atC_up hat0 h0, hrow, by omega, by omega⟩, ?_, ?_⟩
  ·show (cI (el g.C c.toNat) 1 + 1).toNat < (c + 1).toNat
   omega
  ·show lpDep [.i (cI (el g.C c.toNat) 1), .i (n + 1), .s g.nm, .b g.dr, .l g.N, .l g.E, .l g.C] = lpDep [.i c, .i n, .s g.nm, .b g.dr, .l g.N, .l g.E, .l g.C]
   simp only [lpDep, depth_at h0 h4]
   rw [show n + 1 + depth g.C (cI (el g.C c.toNat) 1) = n + (depth g.C (cI (el g.C c.toNat) 1) + 1) by omega]
 ·simp (disch := omega) only [rt26_0, VT.ok, X.ds, X.d, Op2.ev, gz0, gs0, D.int_i, D.bool_b, fe0, ↓reduceIte, dle_f]
  refine round_exit (by omega) ?_
  show lpDep [.i c, .i n, .s g.nm, .b g.dr, .l g.N, .l g.E, .l g.C] = _
  have : c = -1 := by omega
  subst this
  simp only [lpDep, depth_neg (show (-1 : Int) < 0 by omega), Int.add_zero]
theorem m26 : Meets Tryd.prog 26 S26 (R 26) (F 26) := by
 refine meets_of_vt (pre := R) (Φ := F) mixed (sgAt_all (P := Tryd.prog) (pre := R) (Φ := F) (l := sg26) ((fun _ h => nomatch h))) Tryd.func26 b26 n26 (loops_n 1 k26 fun k hk => match k, hk with | 0, _ => loop_this lf26_0 loopM26_0) e26 fun ds hf hq => ?_
 obtain ⟨g, ds', rfl, h5, _, _, _, ⟨_, hC⟩⟩ := fitsG hf.flat
 obtain ⟨x, rfl, hx⟩ := fits1 h5
 obtain ⟨c, rfl, _⟩ := wf_i64 hx
 have hq : atC g.C c := hq
 have hpre : prDep [.i c, .i 0, .s g.nm, .b g.dr, .l g.N, .l g.E, .l g.C] := ⟨c, 0, g, rfl, hq, rowI1_of hC, by omega, by have := hq.2.1; have := hq.2.2.1; omega⟩
 simp only [vt26, VT.ok, Nd.holds, X.outs, X.ds, X.d, takeD_zero, takeD_cons, List.cons_append, List.nil_append, gz0, gs0, D.int_i, D.bool_b, D.lst_l, and_true, F12600, R12600, F26, lpDep, depthD, cL, cI, Int.zero_add]
 exact fun _ => hpre
theorem m31 : Meets Tryd.prog 31 S31 (R 31) (F 31) := by
 refine meets_of_vt (pre := R) (Φ := F) mixed (sgAt_all (P := Tryd.prog) (pre := R) (Φ := F) (l := sg31) (fcm ⟨m29, fcm ⟨m45, fcm ⟨m49, fcm ⟨m51, (fun _ h => nomatch h)⟩⟩⟩⟩)) Tryd.func31 b31 n31 (loops_n 0 k31 fun k hk => by omega) e31 fun ds hf hq => ?_
 obtain ⟨g, ds', rfl, h5, _, _, _, ⟨_, hC⟩⟩ := fitsG hf.flat
 obtain ⟨x, rfl, hx⟩ := fits1 h5
 obtain ⟨i, e, hi, h16, hok⟩ : prClu (.s g.nm :: .b g.dr :: .l g.N :: .l g.E :: .l g.C :: [x]) := hq
 have e : x = .i (i : Int) := e
 subst e
 have hi : i < g.C.length := hi
 have h16 : g.C.length ≤ 16 := h16
 have hok : okC g.C i := hok
 have hF : F 31 (.s g.nm :: .b g.dr :: .l g.N :: .l g.E :: .l g.C :: [.i (i : Int)]) = [.i (cluE g.N g.C i)] := rfl
 rw [hF]
 generalize hv : cluE g.N g.C i = res
 unfold cluE at hv
 simp (disch := omega) only [vt31, VT.ok, Nd.holds, X.outs, X.ds, X.d, Op1.ev, Op2.ev, takeD_zero, takeD_cons, List.cons_append, List.nil_append, gz0, gs0, D.int_i, D.bool_b, D.lst_l, ite_b, ite_or, tn0, implies_true, true_and, takeD1_0, F29, R29, F45, R45, F49, R49, F51, R51, dle_t, dlt_t, nameD, findD, depthD, cS, cI, cL, tn0]
 cases h1 : isName (cS (el g.C i) 0)
 ·rw [h1] at hv
  simp only [Bool.not_false, if_true]
  rw [← hv]; rfl
 ·simp only [h1, if_true] at hv
  simp only [Bool.not_true, fe0, if_false]
  refine ⟨fun _ k _ => ⟨_, cellsN 2 _, rfl, rfl, cellsN_length 2 _⟩, ?_⟩
  show if (if decide (0 ≤ find g.N (cS (el g.C i) 0)) = true then D.b true else D.b (anyN (nmP (g.C.take i) (cS (el g.C i) 0)) (g.C.take i).length)).bool = true then _ else _
  rw [any_take (by omega)]
  simp only [ite_b, ite_or, D.bool_b]
  cases h2 : (decide (0 ≤ find g.N (cS (el g.C i) 0)) || anyN (nmP g.C (cS (el g.C i) 0)) i)
  ·rw [h2] at hv
   simp only [fe0, if_false] at hv ⊢
   by_cases h3 : cI (el g.C i) 1 < -1 ∨ (i : Int) ≤ cI (el g.C i) 1
   ·rw [if_pos h3] at hv
    rw [if_pos (by exact dor_t h3), ← hv]
   ·rw [if_neg h3] at hv
    rw [if_neg (by exact dor_f h3)]
    have hat : atC g.C i := ⟨by omega, by omega, h16, fun k hk => by
     by_cases e : k = i
     ·subst e; omega
     ·exact hok k (by omega)⟩
    refine ⟨fun _ => hat, ?_⟩
    by_cases h4 : 6 < depth g.C i
    ·rw [if_pos h4] at hv
     rw [if_pos (by exact dec_t h4), ← hv]
    ·rw [if_neg h4] at hv
     rw [if_neg (by exact dec_f h4), ← hv]
  ·rw [h2] at hv
   simp only [if_true] at hv ⊢
   rw [← hv]
theorem loopM12_0 : LoopMeets Tryd.prog F (R L12_0.key) L12_0 lb12_0 := by
 refine loop_meets (pre := R) mixed (sgAt_all (P := Tryd.prog) (pre := R) (Φ := F) (l := sg12) (fcm ⟨m10, fcm ⟨m23, fcm ⟨m26, (fun _ h => nomatch h)⟩⟩⟩)) (loops_n 0 lk12_0 fun k hk => by omega) L12_0 (fun ρ => ((ρ.getD 0 default).int - (ρ.getD 2 default).int).toNat) le12_0 fun ρ _ hq => ?_
 obtain ⟨i, v, g, nm, z, j, rfl, hj, hi, hm⟩ : prCluR ρ := hq
 rw [maxLen_val] at hm
 by_cases hlt : j < i
 ·simp (disch := omega) only [rt12_0, VT.ok, Nd.holds, X.ds, X.d, Op1.ev, Op2.ev, gz0, gs0, D.int_i, D.bool_b, D.lst_l, D.str_s, tn0, implies_true, true_and, ↓reduceIte, dle_t, dlt_t, w64']
  show if nmP g.C nm j = true then _ else _
  cases hb : nmP g.C nm j
  ·simp only [fe0, if_false]
   refine round_next ⟨⟨i, v, g, nm, z, j + 1, rfl, by omega, hi, hm⟩, ?_, ?_⟩
   ·show ((i : Int) - ((j + 1 : Nat) : Int)).toNat < ((i : Int) - (j : Int)).toNat
    omega
   ·show lpCluR [.i (i : Int), v, .i ((j + 1 : Nat) : Int), .s g.nm, .b g.dr, .l g.N, .l g.E, .l g.C, .s nm, z] = lpCluR [.i (i : Int), v, .i (j : Int), .s g.nm, .b g.dr, .l g.N, .l g.E, .l g.C, .s nm, z]
    simp only [lpCluR, tn0]
    exact scan_next hlt hb
  ·simp only [if_true]
   refine round_exit (by omega) ?_
   show lpCluR [.i (i : Int), v, .i (j : Int), .s g.nm, .b g.dr, .l g.N, .l g.E, .l g.C, .s nm, z] = _
   simp only [lpCluR, tn0]
   exact scan_hit hlt hb
 ·have hj' : j = i := by omega
  subst hj'
  simp (disch := omega) only [rt12_0, VT.ok, X.ds, X.d, Op2.ev, gz0, gs0, D.int_i, D.bool_b, fe0, ↓reduceIte, dlt_f]
  refine round_exit (by omega) ?_
  show lpCluR [.i (j : Int), v, .i (j : Int), .s g.nm, .b g.dr, .l g.N, .l g.E, .l g.C, .s nm, z] = _
  simp only [lpCluR, tn0]
  exact scan_end
theorem row_s {C : List (List D)} {c : List CT} (h : ∀ x ∈ C, FitsF (.str :: c) x) {i : Nat} (hi : i < C.length) : (el C i).getD 0 default = .s (cS (el C i) 0) := by
 have hx := h (el C i) (getD_mem [] hi)
 match e : el C i, hx with
 | a :: bs, ⟨h0, _⟩ =>
  obtain ⟨s, rfl, _⟩ := wf_str h0
  rfl
theorem m12 : Meets Tryd.prog 12 S12 (R 12) (F 12) := by
 refine meets_of_vt (pre := R) (Φ := F) mixed (sgAt_all (P := Tryd.prog) (pre := R) (Φ := F) (l := sg12) (fcm ⟨m10, fcm ⟨m23, fcm ⟨m26, (fun _ h => nomatch h)⟩⟩⟩)) Tryd.func12 b12 n12 (loops_n 1 k12 fun k hk => match k, hk with | 0, _ => loop_this lf12_0 loopM12_0) e12 fun ds hf hq => ?_
 obtain ⟨g, ds', rfl, h5, _, _, _, ⟨hmC, hC⟩⟩ := fitsG hf.flat
 obtain ⟨x, rfl, hx⟩ := fits1 h5
 obtain ⟨i, e, hi, h16, hok⟩ : prClu (.s g.nm :: .b g.dr :: .l g.N :: .l g.E :: .l g.C :: [x]) := hq
 have e : x = .i (i : Int) := e
 subst e
 have hi : i < g.C.length := hi
 have h16 : g.C.length ≤ 16 := h16
 have hok : okC g.C i := hok
 have hF : F 12 (.s g.nm :: .b g.dr :: .l g.N :: .l g.E :: .l g.C :: [.i (i : Int)]) = [.i (cluE g.N g.C i)] := rfl
 rw [hF]
 generalize hv : cluE g.N g.C i = res
 unfold cluE at hv
 have hnm : (g.C.getD i []).getD 0 default = .s (cS (el g.C i) 0) := row_s hC hi
 have hpre : prCluR [.i (i : Int), .i 0, .i 0, .s g.nm, .b g.dr, .l g.N, .l g.E, .l g.C, .s (cS (el g.C i) 0), (g.C.getD i []).getD 1 default] := ⟨i, _, g, _, _, 0, rfl, by omega, hi, hmC⟩
 simp (disch := omega) only [vt12, VT.ok, Nd.holds, X.outs, X.ds, X.d, Op1.ev, Op2.ev, takeD_zero, takeD_cons, List.cons_append, List.nil_append, gz0, gs0, D.int_i, D.bool_b, D.lst_l, ite_b, ite_or, tn0, implies_true, true_and, F10, R10, F23, R23, F26, R26, F11200, R11200, dle_t, dlt_t, nameD, findD, depthD, cI, cL, tn0, hnm, lpCluR, Int.toNat_zero, Nat.sub_zero]
 cases h1 : isName (cS (el g.C i) 0)
 ·rw [h1] at hv
  simp only [h1, cS, gz0, D.str_s, Bool.not_false, if_true]
  rw [← hv]; rfl
 ·simp only [h1, if_true] at hv
  rw [if_neg (by
   show ¬ (!isName (cS (el g.C i) 0)) = true
   rw [h1]; decide)]
  refine ⟨fun _ => hpre, ?_⟩
  rcases scan_two (p := nmP g.C (cS (el g.C i) 0)) i with ⟨h2, k, _, _, _, h⟩ | ⟨h2, h⟩
  ·rw [h2, Bool.or_true, if_pos rfl] at hv
   simp only [h, takeD_zero, takeD_cons, gz0, gs0, D.int_i, ↓reduceIte, beq_t]
   rw [← hv]
  ·rw [h2, Bool.or_false] at hv
   simp (disch := omega) only [h, takeD_zero, takeD_cons, List.cons_append, List.nil_append, gz0, gs0, D.int_i, fe0, ↓reduceIte, beq_f]
   by_cases h4 : 0 ≤ find g.N (cS (el g.C i) 0)
   ·rw [if_pos (dec_t h4)] at hv
    rw [if_pos (by exact dec_t h4), ← hv]
   ·rw [if_neg (dec_f h4)] at hv
    rw [if_neg (by exact dec_f h4)]
    by_cases h3 : cI (el g.C i) 1 < -1 ∨ (i : Int) ≤ cI (el g.C i) 1
    ·rw [if_pos h3] at hv
     rw [if_pos (by exact dor_t h3), ← hv]
    ·rw [if_neg h3] at hv
     rw [if_neg (by exact dor_f h3)]
     have hat : atC g.C i := ⟨by omega, by omega, h16, fun k hk => by
      by_cases e : k = i
      ·subst e; omega
      ·exact hok k (by omega)⟩
     refine ⟨fun _ => hat, ?_⟩
     by_cases h4 : 6 < depth g.C i
     ·rw [if_pos h4] at hv
      rw [if_pos (by exact dec_t h4), ← hv]
     ·rw [if_neg h4] at hv
      rw [if_neg (by exact dec_f h4), ← hv]
theorem fitsE {ds : List D} (h : FitsF [.int .i64, .int .i64, .int .i64, .int .i64, .str, .int .i64, .int .i64] ds) : ∃ (a b c d : Int) (s : ByteArray) (w l : Int), ds = [.i a, .i b, .i c, .i d, .s s, .i w, .i l] ∧ s.size ≤ maxLen := by
 match ds, h with
 | [d0, d1, d2, d3, d4, d5, d6], ⟨h0, h1, h2, h3, h4, h5, h6, _⟩ =>
  obtain ⟨a, rfl, _⟩ := wf_i64 h0
  obtain ⟨b, rfl, _⟩ := wf_i64 h1
  obtain ⟨c, rfl, _⟩ := wf_i64 h2
  obtain ⟨d, rfl, _⟩ := wf_i64 h3
  obtain ⟨s, rfl, hs⟩ := wf_str h4
  obtain ⟨w, rfl, _⟩ := wf_i64 h5
  obtain ⟨l, rfl, _⟩ := wf_i64 h6
  exact ⟨a, b, c, d, s, w, l, rfl, hs⟩
theorem m32 : Meets Tryd.prog 32 S32 (R 32) (F 32) := by
 refine meets_of_vt (pre := R) (Φ := F) mixed (sgAt_all (P := Tryd.prog) (pre := R) (Φ := F) (l := sg32) (fcm ⟨m46, (fun _ h => nomatch h)⟩)) Tryd.func32 b32 n32 (loops_n 0 k32 fun k hk => by omega) e32 fun ds hf hq => ?_
 obtain ⟨g, ds', rfl, h5, _⟩ := fitsG hf.flat
 obtain ⟨a, b, c, d, s, w, l, rfl, _⟩ := fitsE h5
 have hF : F 32 (.s g.nm :: .b g.dr :: .l g.N :: .l g.E :: .l g.C :: [.i a, .i b, .i c, .i d, .s s, .i w, .i l]) = [.i (edgeE g.N [.i a, .i b, .i c, .i d, .s s, .i w, .i l])] := rfl
 rw [hF]
 generalize hv : edgeE g.N [.i a, .i b, .i c, .i d, .s s, .i w, .i l] = res
 simp only [edgeE, cI, cS, cL, gz0, gs0, D.int_i, D.str_s] at hv
 generalize hA : (((el g.N a.toNat).getD 5 default).lst.length : Int) = A at hv
 generalize hB : (((el g.N b.toNat).getD 5 default).lst.length : Int) = B at hv
 have hA' : (((g.N.getD a.toNat []).getD 5 default).lst.length : Int) = A := hA
 have hB' : (((g.N.getD b.toNat []).getD 5 default).lst.length : Int) = B := hB
 by_cases h1 : 0 ≤ a ∧ a < g.N.length ∧ 0 ≤ b ∧ b < g.N.length ∧ -1 ≤ c ∧ c < A ∧ -1 ≤ d ∧ d < B
 ·rw [if_pos h1] at hv
  simp (disch := omega) only [vt32, VT.ok, Nd.holds, X.outs, X.ds, X.d, Op1.ev, Op2.ev, takeD_zero, takeD_cons, List.cons_append, List.nil_append, gz0, gs0, D.int_i, D.bool_b, D.lst_l, D.str_s, ite_b, ite_or, imin, imax, fe0, implies_true, true_and, F46, R46, ↓reduceIte, dle_t, dle_f, dlt_t, dlt_f, hA', hB', labelD, cS, Bool.not_false]
  by_cases h2 : labelE s = 0
  ·rw [if_pos h2] at hv
   rw [if_neg (by exact bne_f h2)]
   by_cases h3 : 1 ≤ w ∧ w ≤ 1000 ∧ 1 ≤ l ∧ l ≤ 64
   ·rw [if_pos h3] at hv
    simp (disch := omega) only [↓reduceIte, dlt_f, Bool.or_self, fe0]
    rw [← hv]
   ·rw [if_neg h3] at hv
    rw [if_pos (by
     simp only [Bool.or_eq_true, decide_eq_true_eq]
     omega), ← hv]
  ·rw [if_neg h2] at hv
   rw [if_pos (by exact bne_t h2), ← hv]
 ·rw [if_neg h1] at hv
  have hc : ((((decide (min a b < 0) || decide ((g.N.length : Int) ≤ max a b)) || decide (min c d < -1)) || decide (A ≤ c)) || decide (B ≤ d)) = true := by
   simp only [Bool.or_eq_true, decide_eq_true_eq]
   omega
  simp only [vt32, VT.ok, Nd.holds, X.outs, X.ds, X.d, Op1.ev, Op2.ev, List.cons_append, List.nil_append, gz0, gs0, D.int_i, D.bool_b, D.lst_l, ite_b, ite_or, imin, imax, if_true, implies_true, true_and, takeD1_0, F46, R46, hA', hB', hc]
  simp only [Bool.not_eq_true', Bool.or_eq_false_iff, decide_eq_false_iff_not, decide_eq_true_eq]
  exact ⟨fun h => by omega, fun h => by omega, fun h => by omega, fun h => by omega, by rw [hv]⟩
theorem m13 : Meets Tryd.prog 13 S13 (R 13) (F 13) := by
 refine meets_of_vt (pre := R) (Φ := F) mixed (sgAt_all (P := Tryd.prog) (pre := R) (Φ := F) (l := sg13) (fcm ⟨m24, (fun _ h => nomatch h)⟩)) Tryd.func13 b13 n13 (loops_n 0 k13 fun k hk => by omega) e13 fun ds hf hq => ?_
 obtain ⟨g, ds', rfl, h5, _⟩ := fitsG hf.flat
 obtain ⟨a, b, c, d, s, w, l, rfl, _⟩ := fitsE h5
 have hF : F 13 (.s g.nm :: .b g.dr :: .l g.N :: .l g.E :: .l g.C :: [.i a, .i b, .i c, .i d, .s s, .i w, .i l]) = [.i (edgeE g.N [.i a, .i b, .i c, .i d, .s s, .i w, .i l])] := rfl
 rw [hF]
 generalize hv : edgeE g.N [.i a, .i b, .i c, .i d, .s s, .i w, .i l] = res
 simp only [edgeE, cI, cS, cL, gz0, gs0, D.int_i, D.str_s] at hv
 generalize hA : (((el g.N a.toNat).getD 5 default).lst.length : Int) = A at hv
 generalize hB : (((el g.N b.toNat).getD 5 default).lst.length : Int) = B at hv
 have hA' : (((g.N.getD a.toNat []).getD 5 default).lst.length : Int) = A := hA
 have hB' : (((g.N.getD b.toNat []).getD 5 default).lst.length : Int) = B := hB
 by_cases h0 : 0 ≤ a ∧ a < g.N.length ∧ 0 ≤ b ∧ b < g.N.length
 ·by_cases h1 : -1 ≤ c ∧ c < A ∧ -1 ≤ d ∧ d < B
  ·rw [if_pos ⟨h0.1, h0.2.1, h0.2.2.1, h0.2.2.2, h1⟩] at hv
   simp (disch := omega) only [vt13, VT.ok, Nd.holds, X.outs, X.ds, X.d, Op1.ev, Op2.ev, takeD_zero, takeD_cons, List.cons_append, List.nil_append, gz0, gs0, D.int_i, D.bool_b, D.lst_l, D.str_s, ite_b, ite_or, fe0, implies_true, true_and, F24, R24, ↓reduceIte, dle_t, dle_f, dlt_t, dlt_f, hA', hB', plainD, cS, Bool.not_false]
   by_cases h4 : 32 < (s.size : Int)
   ·have h3 : labelE s = 2 := by rw [labelE, if_pos h4]
    rw [h3, if_neg (by decide)] at hv
    rw [if_pos (by exact dec_t h4), ← hv]
   ·rw [if_neg (by exact dec_f h4)]
    cases h6 : plainB s
    ·have h3 : labelE s = 7 := by rw [labelE, if_neg h4, h6]; rfl
     rw [h3, if_neg (by decide)] at hv
     simp only [Bool.not_false, Bool.true_or, if_true]
     rw [← hv]
    ·have h3 : labelE s = 0 := by rw [labelE, if_neg h4, h6]; rfl
     rw [h3, if_pos rfl] at hv
     simp only [Bool.not_true, Bool.false_or]
     by_cases h3 : 1 ≤ w ∧ w ≤ 1000 ∧ 1 ≤ l ∧ l ≤ 64
     ·rw [if_pos h3] at hv
      simp (disch := omega) only [↓reduceIte, dlt_f, Bool.or_self, fe0]
      rw [← hv]
     ·rw [if_neg h3] at hv
      rw [if_pos (by
       simp only [Bool.or_eq_true, decide_eq_true_eq]
       omega), ← hv]
  ·rw [if_neg (by omega)] at hv
   have hc : (((decide (c < -1) || decide (A ≤ c)) || decide (d < -1)) || decide (B ≤ d)) = true := by
    simp only [Bool.or_eq_true, decide_eq_true_eq]
    omega
   simp (disch := omega) only [vt13, VT.ok, Nd.holds, X.ds, X.d, Op1.ev, Op2.ev, gz0, gs0, D.int_i, D.bool_b, D.lst_l, ite_b, ite_or, fe0, implies_true, true_and, ↓reduceIte, dle_t, dle_f, dlt_t, dlt_f, hA', hB', hc]
   rw [hv]
 ·rw [if_neg (by omega)] at hv
  have hc : (((decide (a < 0) || decide ((g.N.length : Int) ≤ a)) || decide (b < 0)) || decide ((g.N.length : Int) ≤ b)) = true := by
   simp only [Bool.or_eq_true, decide_eq_true_eq]
   omega
  simp only [vt13, VT.ok, Nd.holds, X.outs, X.ds, X.d, Op1.ev, Op2.ev, List.cons_append, List.nil_append, gz0, gs0, D.int_i, D.bool_b, D.lst_l, D.str_s, ite_b, ite_or, if_true, implies_true, true_and, takeD1_0, F24, R24, hc]
  rw [hv]
end Go.Proofs.YtinaaabmmjpijaaDoor.rv
