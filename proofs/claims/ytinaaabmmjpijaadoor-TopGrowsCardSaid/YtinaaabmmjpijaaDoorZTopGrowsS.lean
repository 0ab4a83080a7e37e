/-
 layouttop.TopGrows answers 'true' for every input, and what was handed in reads behind the call as it read before; math/bits' two tables read as the program's text lays them: the card ties them. No other condition is asked.
-/
import Derived.Test.YtinaaabmmjpijaaDoorRows
import Derived.Test.YtinaaabmmjpijaaDoorCards
import Derived.Test.YtinaaabmmjpijaaDoorTie
import Derived.WalkKit
import Derived.ProofKit
import Derived.OpenShut
import Derived.JoinedCond
import Derived.LaidMore
import Derived.MakeChecks
import Derived.LaidLaws
import Derived.LaidHandle
import Derived.SevenTiedAt
import Derived.Test.YtinaaabmmjpijaaDoorZTopGrowsR
namespace Go.Proofs.YtinaaabmmjpijaaDoor.topGrows
open Go.RV Go.ChangeShapes Go.WideShapes Go.RowKit
theorem own : ownKnob Tryd.prog.godebug = none := by kernel_rfl
theorem laidOut : laidOutB Tryd.prog = true := by kernel_rfl
theorem g32 : Tryd.prog.globalNamed (Rows.topGrowsRow.named.getD 0 default) = some 0 := by kernel_rfl
theorem g64 : Tryd.prog.globalNamed (Rows.topGrowsRow.named.getD 1 default) = some 1 := by kernel_rfl
theorem t32 : (Tryd.prog.globals[0]?).map (·.type) = some 133 := by kernel_rfl
theorem t64 : (Tryd.prog.globals[1]?).map (·.type) = some 134 := by kernel_rfl
theorem u32 : Tryd.prog.underlying 133 = some (.array 32 5) := by kernel_rfl
theorem u64 : Tryd.prog.underlying 134 = some (.array 64 5) := by kernel_rfl
theorem u8 : Tryd.prog.underlying 5 = some (.int .u8) := by kernel_rfl
theorem c8 : Tryd.prog.cellsOf 5 = 1 := by kernel_rfl
theorem cells_of {W : World} {t : TypeId} {n fuel : Nat} {cs : List Value} {tab : List Nat} {p : List MemPlace} (ht : Tryd.prog.underlying t = some (.array n 5)) (hn : tab.length = n)
  (h : DataW.trod (fun _ => ()) Tryd.prog W 0 (fun _ => true) false fuel t cs = some (.agg (tab.map fun (k : Nat) => .lit (.int .u8 (k : Int))), p)) : ∀ j, j < n → cs[j]? = some (.int .u8 (tab.getD j 0)) := by
 intro j hj
 obtain ⟨xs, m, _, hx, hlen, hxl, hel⟩ := DataW.trod_array ht h
 simp only [Prod.mk.injEq, DataW.agg.injEq] at hx
 have he := hel j hj
 rw [c8, Nat.mul_one] at he
 have hxj : j < xs.length := by omega
 rw [List.getElem?_eq_getElem hxj] at he
 obtain ⟨k, e1, e2, _⟩ := DataW.trod_int u8 he
 have hk : (tab.map fun (k : Nat) => (DataW.lit (Lit.int .u8 (k : Int)) : DataW Unit))[j]? = (xs.map (·.1))[j]? := by rw [hx.1]
 rw [List.getElem?_map, List.getElem?_map, List.getElem?_eq_getElem hxj, List.getElem?_eq_getElem (by omega), Option.map_some, Option.map_some, e2] at hk
 simp only [si0, DataW.lit.injEq, Lit.int.injEq, true_and] at hk
 have h1 : cs[j]? = ((cs.drop j).take 1)[0]? := by
  rw [List.getElem?_take_of_lt (by omega), List.getElem?_drop, Nat.add_zero]
 rw [h1, e1, ← hk]
 simp [List.getD, (by omega : j < tab.length)]
theorem tabs_of {W : World} (h : laidMetH Tryd.prog Rows.topGrowsRow.laid W) : TabIn W fun b => b < W.heap.size := by
 rw [MakeChecks.laidMetH_plain _ _ _ (by kernel_rfl)] at h
 obtain ⟨ps, ⟨g0, y0, cs0, f0, p0, q0, hg0, ht0, hv0, hd0, ⟨g1, y1, cs1, f1, p1, q1, hg1, ht1, hv1, hd1, _, _⟩, _⟩, _, _⟩ := h
 obtain rfl := Option.some.inj (g32.symm.trans hg0)
 obtain rfl := Option.some.inj (g64.symm.trans hg1)
 obtain rfl := Option.some.inj (t32.symm.trans ht0)
 obtain rfl := Option.some.inj (t64.symm.trans ht1)
 have e32 := cells_of (tab := Lib.deBruijn32tab) u32 (by decide) hd0
 have e64 := cells_of (tab := Lib.deBruijn64tab) u64 (by decide) hd1
 have a32 : ∀ j, j < 32 → W.cell? ⟨0, j, none⟩ = some (.int .u8 (Lib.deBruijn32tab.getD j 0)) := fun j hj => by
  rw [World.var?_cell g32 hv0 j, ← Array.getElem?_toList]
  exact e32 j hj
 have a64 : ∀ j, j < 64 → W.cell? ⟨1, j, none⟩ = some (.int .u8 (Lib.deBruijn64tab.getD j 0)) := fun j hj => by
  rw [World.var?_cell g64 hv1 j, ← Array.getElem?_toList]
  exact e64 j hj
 have hsz : 1 < W.heap.size := by
  have := a64 0 (by decide)
  unfold World.cell? at this
  by_cases hb : 1 < W.heap.size
  ·exact hb
  ·have : W.heap[1]? = none := by simp; omega
   simp_all
 intro e he
 simp only [tabs, List.mem_cons, List.not_mem_nil, or_false] at he
 rcases he with rfl | rfl
 ·exact ⟨by show 0 < W.heap.size; omega, fun j hj => a32 j hj⟩
 ·exact ⟨hsz, fun j hj => a64 j hj⟩
theorem pre3 : ∀ ds, Fits rv.S3.ps ds → rchL Tryd.prog 8 (flatCts rv.S3.ps) ds → rv.lawPre ds := by
 intro ds hf hr
 have h1 := hr 3 _ rfl
 obtain ⟨g, x, rfl, _⟩ := fitsG hf.flat
 have h2 : g.E.length * Tryd.prog.bytesOf 28 ≤ reachBytes := h1.1
 have hb : Tryd.prog.bytesOf 28 = 64 := by kernel_rfl
 have hr : reachBytes < 140737488355328 := by decide
 rw [hb] at h2
 show g.E.length < 2199023255552
 omega
theorem door_met (os : Os) (args : Array Value) : laidMetH Tryd.prog Rows.topGrowsRow.laid ((World.doorLaid Tryd.prog 4000 os).forCall (fun _ _ => 0) ⟨#[], args, []⟩).memory :=
 laidMetH_of_parts3 (fuel := 8) (laidMet_of_run' 8 (by kernel_rfl) (by kernel_rfl)) (by kernel_rfl) (by kernel_rfl)
set_option maxRecDepth 100000 in
theorem lifted (os : Os) (started : os.Started) (H : Type) (enc : TypeId × Value → H) :
  ReturnsInHanded {} Tryd.checked os 3 .any (fun w args => (Rows.topGrowsSpec.pre enc Tryd.prog Tryd.f3 [] false w args ∧ laidMetH Tryd.prog Rows.topGrowsRow.laid w) ∧ sizedMet enc Tryd.prog Tryd.f3 (OpenSpec.ofChange Rows.topGrowsSpec) false w args)
   (Rows.topGrowsSpec.post enc Tryd.prog Tryd.f3 false true false false) := by
 refine returnsInHanded_of_change_and (C := Tryd.checked) (X := fun w _ => laidMetH Tryd.prog Rows.topGrowsRow.laid w) (fun _ _ _ hh h => h.of_heap hh) own started (by kernel_rfl) Tryd.func3
  (ChangeSpec.witness_shaped (enc := enc) (C := Tryd.checked) (os := os) (X := fun w _ => laidMetH Tryd.prog Rows.topGrowsRow.laid w) false (World.doorLaid Tryd.prog 4000 os) #[.agg #[.string ByteArray.empty, .bool false, .slice none 0 0, .slice none 0 0, .slice none 0 0], .agg #[.int .i64 0, .int .i64 0, .int .i64 0, .int .i64 0, .string ByteArray.empty, .int .i64 0, .int .i64 0]] 8 rfl (World.shaped_of_RefB (by kernel_rfl) (by kernel_rfl)) (by kernel_rfl) (by kernel_rfl) (by kernel_rfl) (door_met os _)) ?_
 intro W base args ds gs before hval hW _ hsz hL _
 refine law_post2 (s := Rows.topGrowsSpec) rv.m3 rfl (by kernel_rfl) pre3 (t := 4) (by kernel_rfl) (by kernel_rfl) rfl laidOut (by kernel_rfl) (fun ds hl => ?_) hval hW hsz (by decide) (tabs_of hL)
 match ds, hl with
 | [d1, d2], _ => rfl
theorem row_holds : Rows.TopGrowsSaid :=
 OpenClaim.holds_of_wide 3 Tryd.f3 rfl rfl rfl rfl rfl rfl rfl ⟨rfl, rfl, rfl, rfl, rfl⟩ rfl rfl rfl rfl rfl (by kernel_rfl) Tryd.func3 (by kernel_rfl)
  (of_decide_eq_true (by kernel_rfl)) (by unfold Func.isWrapper; first | (rw [if_pos (by decide +kernel)]; kernel_rfl) | (rw [if_neg (by decide +kernel)]; exact ⟨rfl, rfl⟩))
  (fun os started H enc _ => lifted os started H enc)
theorem proved : Rows.TopGrowsCardSaid :=
  Claim7.holds_tied_plain_at .later [] [.data, .data] true (true, "bcbe286a9cf3037c2af84cbfa0498a0bb568a10148ea87e4ca63dacec22f0206") false
    row_holds (fun _ h => by cases h) (by kernel_rfl) (fun _ h => by cases h) topGrows_row_tie rfl ⟨rfl, rfl⟩ (by kernel_rfl) rfl
    (fun f fn hf hfn => by
      obtain rfl : f = 3 := Option.some.inj ((show Tryd.prog.funcNamed Rows.topGrowsRow.func = some 3 by kernel_rfl).symm.trans hf) |>.symm
      obtain rfl : fn = Tryd.f3 := (Option.some.inj (Tryd.func3.symm.trans hfn)).symm
      exact ⟨by kernel_rfl, fun j t ht => by
        have hm : t ∈ Tryd.f3.params.toList := by simpa using Array.mem_of_getElem? ht
        have hall : (Tryd.f3.params.toList.all fun u => !Tryd.prog.wantsStandIn u) = true := by kernel_rfl
        exact (show Tryd.prog.wantsStandIn t = false by simpa using List.all_eq_true.1 hall t hm)⟩)
    (by kernel_rfl)
end Go.Proofs.YtinaaabmmjpijaaDoor.topGrows
