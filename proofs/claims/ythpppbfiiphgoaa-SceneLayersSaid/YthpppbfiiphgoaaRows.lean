/-
  No cell of these rows narrows 'for every input' (looked for: loops, veiled, ifaces, maps, wideKeys, modest, calm, conditions, laid).
  DERIVED. THE GIVEN ROWS OF THIS SEAT. 6 by the template 'for every input the law returns true; each argument reads behind the call as it read before'; 0 by the template 'total and deterministic' (their statements: YthpppbfiiphgoaaTotals.lean).
  GIVEN WITH THE SEED: the statements are not yours to turn. If you find one false, say at which input.
  Laid BY PROGRAM, IN A SANDBOX (cutbox-rows.mjs): the forced cells as the released guide's own fill.sh prints them over the translation 49ce71c03ec3d67b… (all of the seat's roots in one cut). By AI agents, Wed Nov 11 2026. No macro, syntax, notation, axiom, sorry.
-/
import Derived.Test.YthpppbfiiphgoaaChecked
import GoSem.Claim
import GoSem.ClaimJoined
import GoSem.ClaimMapViews
import Derived.JoinedTies
import Derived.KernelRfl
namespace Go.Proofs.Ythpppbfiiphgoaa
/- THE CELL 'sum', in the pinned program and in every row, IS THE sha256 OF THE DUMP (.gsa) THAT YthpppbfiiphgoaaProg.lean LOADS. Nothing in Lean hashes anything: it is a label: what it is worth is what the hold of that sum in a sandbox is worth. -/
noncomputable def Try.pinned : Pinned := { name := "ythpppbfiiphgoaa", sum := "49ce71c03ec3d67be3489a5ece6b1fc698f1f829282edc7b71106e11ef999ec0", checked := Try.checked }
namespace Rows
def none {H : Type} : Left H := { results := [], args := [] }

/-- 'layoutlaw53.SceneChecks': WHATEVER THE INPUT: true; the input reads as it did. -/
def sceneChecksSpec : ChangeSpec := { name := "sceneChecks", fn := fun _ => fun
  | [d] => { results := [.lit (.bool true)], args := [d] }
  | _ => none }
def sceneChecksRow : OpenClaim := { program := "ythpppbfiiphgoaa", sum := "49ce71c03ec3d67be3489a5ece6b1fc698f1f829282edc7b71106e11ef999ec0", func := "layout/layoutlaw53.SceneChecks", spec := "sceneChecks", unfollowed := true, recurses := true, apart := false }
def SceneChecksSaid : Prop := sceneChecksRow.holds Try.pinned (OpenSpec.ofChange sceneChecksSpec)

/-- ITS FALSE NEIGHBOUR: 'it returns false'. Refute it at one input. -/
def sceneChecksWrong : ChangeSpec := { name := "sceneChecks", fn := fun _ => fun
  | [d] => { results := [.lit (.bool false)], args := [d] }
  | _ => none }
def SceneChecksWrongFalsely : Prop := sceneChecksRow.holds Try.pinned (OpenSpec.ofChange sceneChecksWrong)

/-- 'layoutlaw53.SceneBuilds': WHATEVER THE INPUT: true; the input reads as it did. -/
def sceneBuildsSpec : ChangeSpec := { name := "sceneBuilds", fn := fun _ => fun
  | [d1, d2] => { results := [.lit (.bool true)], args := [d1, d2] }
  | _ => none }
def sceneBuildsRow : OpenClaim := { program := "ythpppbfiiphgoaa", sum := "49ce71c03ec3d67be3489a5ece6b1fc698f1f829282edc7b71106e11ef999ec0", func := "layout/layoutlaw53.SceneBuilds", spec := "sceneBuilds", unfollowed := true, recurses := true, apart := false }
def SceneBuildsSaid : Prop := sceneBuildsRow.holds Try.pinned (OpenSpec.ofChange sceneBuildsSpec)

/-- ITS FALSE NEIGHBOUR: 'it returns false'. Refute it at one input. -/
def sceneBuildsWrong : ChangeSpec := { name := "sceneBuilds", fn := fun _ => fun
  | [d1, d2] => { results := [.lit (.bool false)], args := [d1, d2] }
  | _ => none }
def SceneBuildsWrongFalsely : Prop := sceneBuildsRow.holds Try.pinned (OpenSpec.ofChange sceneBuildsWrong)

/-- 'layoutlaw53.SceneMoves': WHATEVER THE INPUT: true; the input reads as it did. -/
def sceneMovesSpec : ChangeSpec := { name := "sceneMoves", fn := fun _ => fun
  | [d1, d2, d3] => { results := [.lit (.bool true)], args := [d1, d2, d3] }
  | _ => none }
def sceneMovesRow : OpenClaim := { program := "ythpppbfiiphgoaa", sum := "49ce71c03ec3d67be3489a5ece6b1fc698f1f829282edc7b71106e11ef999ec0", func := "layout/layoutlaw53.SceneMoves", spec := "sceneMoves", unfollowed := true, recurses := true, apart := false }
def SceneMovesSaid : Prop := sceneMovesRow.holds Try.pinned (OpenSpec.ofChange sceneMovesSpec)

/-- ITS FALSE NEIGHBOUR: 'it returns false'. Refute it at one input. -/
def sceneMovesWrong : ChangeSpec := { name := "sceneMoves", fn := fun _ => fun
  | [d1, d2, d3] => { results := [.lit (.bool false)], args := [d1, d2, d3] }
  | _ => none }
def SceneMovesWrongFalsely : Prop := sceneMovesRow.holds Try.pinned (OpenSpec.ofChange sceneMovesWrong)

/-- 'layoutlaw53.SceneLayers': WHATEVER THE INPUT: true; the input reads as it did. -/
def sceneLayersSpec : ChangeSpec := { name := "sceneLayers", fn := fun _ => fun
  | [d1, d2] => { results := [.lit (.bool true)], args := [d1, d2] }
  | _ => none }
def sceneLayersRow : OpenClaim := { program := "ythpppbfiiphgoaa", sum := "49ce71c03ec3d67be3489a5ece6b1fc698f1f829282edc7b71106e11ef999ec0", func := "layout/layoutlaw53.SceneLayers", spec := "sceneLayers", unfollowed := true, recurses := true, apart := false }
def SceneLayersSaid : Prop := sceneLayersRow.holds Try.pinned (OpenSpec.ofChange sceneLayersSpec)

/-- ITS FALSE NEIGHBOUR: 'it returns false'. Refute it at one input. -/
def sceneLayersWrong : ChangeSpec := { name := "sceneLayers", fn := fun _ => fun
  | [d1, d2] => { results := [.lit (.bool false)], args := [d1, d2] }
  | _ => none }
def SceneLayersWrongFalsely : Prop := sceneLayersRow.holds Try.pinned (OpenSpec.ofChange sceneLayersWrong)

/-- 'layoutlaw53.SceneEquals': WHATEVER THE INPUT: true; the input reads as it did. -/
def sceneEqualsSpec : ChangeSpec := { name := "sceneEquals", fn := fun _ => fun
  | [d1, d2] => { results := [.lit (.bool true)], args := [d1, d2] }
  | _ => none }
def sceneEqualsRow : OpenClaim := { program := "ythpppbfiiphgoaa", sum := "49ce71c03ec3d67be3489a5ece6b1fc698f1f829282edc7b71106e11ef999ec0", func := "layout/layoutlaw53.SceneEquals", spec := "sceneEquals", unfollowed := true, recurses := true, apart := false }
def SceneEqualsSaid : Prop := sceneEqualsRow.holds Try.pinned (OpenSpec.ofChange sceneEqualsSpec)

/-- ITS FALSE NEIGHBOUR: 'it returns false'. Refute it at one input. -/
def sceneEqualsWrong : ChangeSpec := { name := "sceneEquals", fn := fun _ => fun
  | [d1, d2] => { results := [.lit (.bool false)], args := [d1, d2] }
  | _ => none }
def SceneEqualsWrongFalsely : Prop := sceneEqualsRow.holds Try.pinned (OpenSpec.ofChange sceneEqualsWrong)

/-- 'layoutlaw53.SceneBack': WHATEVER THE INPUT: true; the input reads as it did. -/
def sceneBackSpec : ChangeSpec := { name := "sceneBack", fn := fun _ => fun
  | [d1, d2] => { results := [.lit (.bool true)], args := [d1, d2] }
  | _ => none }
def sceneBackRow : OpenClaim := { program := "ythpppbfiiphgoaa", sum := "49ce71c03ec3d67be3489a5ece6b1fc698f1f829282edc7b71106e11ef999ec0", func := "layout/layoutlaw53.SceneBack", spec := "sceneBack", unfollowed := true, recurses := true, apart := false }
def SceneBackSaid : Prop := sceneBackRow.holds Try.pinned (OpenSpec.ofChange sceneBackSpec)

/-- ITS FALSE NEIGHBOUR: 'it returns false'. Refute it at one input. -/
def sceneBackWrong : ChangeSpec := { name := "sceneBack", fn := fun _ => fun
  | [d1, d2] => { results := [.lit (.bool false)], args := [d1, d2] }
  | _ => none }
def SceneBackWrongFalsely : Prop := sceneBackRow.holds Try.pinned (OpenSpec.ofChange sceneBackWrong)

/- THE SECOND FORM. 'bulk': how many values and letters a reading holds, each counted each time it is reached (what is shared counts as often as it is met; a slice's spare places count too). A statement '..UptoSaid' is the law's where the arguments, and the package variables that the reading takes, are together of bulk at most 1048576: NARROWER than '..Said'. Prove '..Said' where nothing that the law and all that it calls make is longer than what came in: it says more and counts as full. Else prove '..UptoSaid'. A law counts once. -/
mutual
def uptoBulk {H : Type} : DataW H → Nat
  | .lit (.string bytes) => bytes.length + 1
  | .lit _ => 1
  | .nil => 1
  | .ptr d => uptoBulk d + 1
  | .slice elems spare => uptoBulkAll elems + uptoBulkAll spare + 1
  | .agg parts => uptoBulkAll parts + 1
  | .iface _ d => uptoBulk d + 1
  | .map entries => uptoBulkEntries entries + 1
  | .held _ => 1
def uptoBulkAll {H : Type} : List (DataW H) → Nat
  | [] => 0
  | d :: r => uptoBulk d + uptoBulkAll r
def uptoBulkEntries {H : Type} : List (Lit × DataW H) → Nat
  | [] => 0
  | x :: r => uptoBulkEntry x + uptoBulkEntries r
def uptoBulkEntry {H : Type} : Lit × DataW H → Nat
  | (.string bytes, d) => bytes.length + uptoBulk d + 1
  | (_, d) => uptoBulk d + 1
 end
def uptoSmall : (H : Type) → List (DataW H) → Bool := fun _ ds => decide (uptoBulkAll ds ≤ 1048576)
def OpenSpec.upto (s : _root_.Go.ChangeSpec) : _root_.Go.OpenSpec := { _root_.Go.OpenSpec.ofChange s with cond := some uptoSmall }

/-- 'layoutlaw53.SceneChecks', WHERE WHAT IT READS IS OF BULK AT MOST 1048576: true; the input reads as it did. -/
def sceneChecksUptoRow : OpenClaim := { program := "ythpppbfiiphgoaa", sum := "49ce71c03ec3d67be3489a5ece6b1fc698f1f829282edc7b71106e11ef999ec0", func := "layout/layoutlaw53.SceneChecks", spec := "sceneChecks", unfollowed := true, recurses := true, apart := false, narrowed := true }
def SceneChecksUptoSaid : Prop := sceneChecksUptoRow.holds Try.pinned (OpenSpec.upto sceneChecksSpec)

/-- 'layoutlaw53.SceneBuilds', WHERE WHAT IT READS IS OF BULK AT MOST 1048576: true; the input reads as it did. -/
def sceneBuildsUptoRow : OpenClaim := { program := "ythpppbfiiphgoaa", sum := "49ce71c03ec3d67be3489a5ece6b1fc698f1f829282edc7b71106e11ef999ec0", func := "layout/layoutlaw53.SceneBuilds", spec := "sceneBuilds", unfollowed := true, recurses := true, apart := false, narrowed := true }
def SceneBuildsUptoSaid : Prop := sceneBuildsUptoRow.holds Try.pinned (OpenSpec.upto sceneBuildsSpec)

/-- 'layoutlaw53.SceneMoves', WHERE WHAT IT READS IS OF BULK AT MOST 1048576: true; the input reads as it did. -/
def sceneMovesUptoRow : OpenClaim := { program := "ythpppbfiiphgoaa", sum := "49ce71c03ec3d67be3489a5ece6b1fc698f1f829282edc7b71106e11ef999ec0", func := "layout/layoutlaw53.SceneMoves", spec := "sceneMoves", unfollowed := true, recurses := true, apart := false, narrowed := true }
def SceneMovesUptoSaid : Prop := sceneMovesUptoRow.holds Try.pinned (OpenSpec.upto sceneMovesSpec)

/-- 'layoutlaw53.SceneLayers', WHERE WHAT IT READS IS OF BULK AT MOST 1048576: true; the input reads as it did. -/
def sceneLayersUptoRow : OpenClaim := { program := "ythpppbfiiphgoaa", sum := "49ce71c03ec3d67be3489a5ece6b1fc698f1f829282edc7b71106e11ef999ec0", func := "layout/layoutlaw53.SceneLayers", spec := "sceneLayers", unfollowed := true, recurses := true, apart := false, narrowed := true }
def SceneLayersUptoSaid : Prop := sceneLayersUptoRow.holds Try.pinned (OpenSpec.upto sceneLayersSpec)

/-- 'layoutlaw53.SceneEquals', WHERE WHAT IT READS IS OF BULK AT MOST 1048576: true; the input reads as it did. -/
def sceneEqualsUptoRow : OpenClaim := { program := "ythpppbfiiphgoaa", sum := "49ce71c03ec3d67be3489a5ece6b1fc698f1f829282edc7b71106e11ef999ec0", func := "layout/layoutlaw53.SceneEquals", spec := "sceneEquals", unfollowed := true, recurses := true, apart := false, narrowed := true }
def SceneEqualsUptoSaid : Prop := sceneEqualsUptoRow.holds Try.pinned (OpenSpec.upto sceneEqualsSpec)

/-- 'layoutlaw53.SceneBack', WHERE WHAT IT READS IS OF BULK AT MOST 1048576: true; the input reads as it did. -/
def sceneBackUptoRow : OpenClaim := { program := "ythpppbfiiphgoaa", sum := "49ce71c03ec3d67be3489a5ece6b1fc698f1f829282edc7b71106e11ef999ec0", func := "layout/layoutlaw53.SceneBack", spec := "sceneBack", unfollowed := true, recurses := true, apart := false, narrowed := true }
def SceneBackUptoSaid : Prop := sceneBackUptoRow.holds Try.pinned (OpenSpec.upto sceneBackSpec)

end Rows
end Go.Proofs.Ythpppbfiiphgoaa
