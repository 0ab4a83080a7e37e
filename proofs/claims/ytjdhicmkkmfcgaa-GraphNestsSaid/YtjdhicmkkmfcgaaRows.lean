/-
  No cell of these rows narrows 'for every input' (looked for: loops, veiled, ifaces, maps, wideKeys, modest, calm, conditions, laid).
  DERIVED. THE GIVEN ROWS OF THIS SEAT. 4 by the template 'for every input the law returns true; each argument reads behind the call as it read before'; 0 by the template 'total and deterministic' (their statements: YtjdhicmkkmfcgaaTotals.lean).
  GIVEN WITH THE SEED: the statements are not yours to turn. If you find one false, say at which input.
  Laid BY PROGRAM, IN A SANDBOX (cutbox-rows.mjs): the forced cells as the released guide's own fill.sh prints them over the translation 2360d4225f373696… (all of the seat's roots in one cut). By AI agents, Wed Nov 11 2026. No macro, syntax, notation, axiom, sorry.
-/
import Derived.Test.YtjdhicmkkmfcgaaChecked
import GoSem.Claim
import GoSem.ClaimJoined
import GoSem.ClaimMapViews
import Derived.JoinedTies
import Derived.KernelRfl
namespace Go.Proofs.Ytjdhicmkkmfcgaa
/- THE CELL 'sum', in the pinned program and in every row, IS THE sha256 OF THE DUMP (.gsa) THAT YtjdhicmkkmfcgaaProg.lean LOADS. Nothing in Lean hashes anything: it is a label: what it is worth is what the hold of that sum in a sandbox is worth. -/
noncomputable def Try.pinned : Pinned := { name := "ytjdhicmkkmfcgaa", sum := "2360d4225f3736968e93744f7dd478e549d9f4363febc9741f092321dd928d22", checked := Try.checked }
namespace Rows
def none {H : Type} : Left H := { results := [], args := [] }

/-- 'layoutlaw11.GraphValid': WHATEVER THE INPUT: true; the input reads as it did. -/
def graphValidSpec : ChangeSpec := { name := "graphValid", fn := fun _ => fun
  | [d] => { results := [.lit (.bool true)], args := [d] }
  | _ => none }
def graphValidRow : OpenClaim := { program := "ytjdhicmkkmfcgaa", sum := "2360d4225f3736968e93744f7dd478e549d9f4363febc9741f092321dd928d22", func := "layout/layoutlaw11.GraphValid", spec := "graphValid", unfollowed := true, recurses := true, apart := false }
def GraphValidSaid : Prop := graphValidRow.holds Try.pinned (OpenSpec.ofChange graphValidSpec)

/-- ITS FALSE NEIGHBOUR: 'it returns false'. Refute it at one input. -/
def graphValidWrong : ChangeSpec := { name := "graphValid", fn := fun _ => fun
  | [d] => { results := [.lit (.bool false)], args := [d] }
  | _ => none }
def GraphValidWrongFalsely : Prop := graphValidRow.holds Try.pinned (OpenSpec.ofChange graphValidWrong)

/-- 'layoutlaw11.GraphParts': WHATEVER THE INPUT: true; the input reads as it did. -/
def graphPartsSpec : ChangeSpec := { name := "graphParts", fn := fun _ => fun
  | [d1, d2, d3] => { results := [.lit (.bool true)], args := [d1, d2, d3] }
  | _ => none }
def graphPartsRow : OpenClaim := { program := "ytjdhicmkkmfcgaa", sum := "2360d4225f3736968e93744f7dd478e549d9f4363febc9741f092321dd928d22", func := "layout/layoutlaw11.GraphParts", spec := "graphParts", unfollowed := true, recurses := true, apart := false }
def GraphPartsSaid : Prop := graphPartsRow.holds Try.pinned (OpenSpec.ofChange graphPartsSpec)

/-- ITS FALSE NEIGHBOUR: 'it returns false'. Refute it at one input. -/
def graphPartsWrong : ChangeSpec := { name := "graphParts", fn := fun _ => fun
  | [d1, d2, d3] => { results := [.lit (.bool false)], args := [d1, d2, d3] }
  | _ => none }
def GraphPartsWrongFalsely : Prop := graphPartsRow.holds Try.pinned (OpenSpec.ofChange graphPartsWrong)

/-- 'layoutlaw11.GraphClusters': WHATEVER THE INPUT: true; the input reads as it did. -/
def graphClustersSpec : ChangeSpec := { name := "graphClusters", fn := fun _ => fun
  | [d1, d2, d3, d4] => { results := [.lit (.bool true)], args := [d1, d2, d3, d4] }
  | _ => none }
def graphClustersRow : OpenClaim := { program := "ytjdhicmkkmfcgaa", sum := "2360d4225f3736968e93744f7dd478e549d9f4363febc9741f092321dd928d22", func := "layout/layoutlaw11.GraphClusters", spec := "graphClusters", unfollowed := true, recurses := true, apart := false }
def GraphClustersSaid : Prop := graphClustersRow.holds Try.pinned (OpenSpec.ofChange graphClustersSpec)

/-- ITS FALSE NEIGHBOUR: 'it returns false'. Refute it at one input. -/
def graphClustersWrong : ChangeSpec := { name := "graphClusters", fn := fun _ => fun
  | [d1, d2, d3, d4] => { results := [.lit (.bool false)], args := [d1, d2, d3, d4] }
  | _ => none }
def GraphClustersWrongFalsely : Prop := graphClustersRow.holds Try.pinned (OpenSpec.ofChange graphClustersWrong)

/-- 'layoutlaw11.GraphNests': WHATEVER THE INPUT: true; the input reads as it did. -/
def graphNestsSpec : ChangeSpec := { name := "graphNests", fn := fun _ => fun
  | [d1, d2, d3] => { results := [.lit (.bool true)], args := [d1, d2, d3] }
  | _ => none }
def graphNestsRow : OpenClaim := { program := "ytjdhicmkkmfcgaa", sum := "2360d4225f3736968e93744f7dd478e549d9f4363febc9741f092321dd928d22", func := "layout/layoutlaw11.GraphNests", spec := "graphNests", unfollowed := true, recurses := true, apart := false }
def GraphNestsSaid : Prop := graphNestsRow.holds Try.pinned (OpenSpec.ofChange graphNestsSpec)

/-- ITS FALSE NEIGHBOUR: 'it returns false'. Refute it at one input. -/
def graphNestsWrong : ChangeSpec := { name := "graphNests", fn := fun _ => fun
  | [d1, d2, d3] => { results := [.lit (.bool false)], args := [d1, d2, d3] }
  | _ => none }
def GraphNestsWrongFalsely : Prop := graphNestsRow.holds Try.pinned (OpenSpec.ofChange graphNestsWrong)

/- THE SECOND FORM. 'bulk': how many values and letters a reading holds, each counted each time it is reached (what is shared counts as often as it is met; a slice's spare places count too). A statement '..UptoSaid' is the law's where the arguments, and the package variables that the reading takes, are together of bulk at most 1048576: NARROWER than '..Said'. Prove '..Said' where nothing that the law and all that it calls make is longer than what came in: it says more and counts as full. Else prove '..UptoSaid'. A law counts once. -/
mutual
def uptoBulk {H : Type} : DataW H → Nat
  | .lit (.string bytes) => bytes.length + 1
  | .lit _ => 1
  | .nil => 1
  | .ptr d => uptoBulk d + 1
  | .slice elems spare => uptoBulkAll elems + uptoBulkAll spare + 1
  | .agg parts => uptoBulkAll parts + 1
  | .iface _ d => uptoBulk d + 1
  | .map entries => uptoBulkEntries entries + 1
  | .held _ => 1
def uptoBulkAll {H : Type} : List (DataW H) → Nat
  | [] => 0
  | d :: r => uptoBulk d + uptoBulkAll r
def uptoBulkEntries {H : Type} : List (Lit × DataW H) → Nat
  | [] => 0
  | x :: r => uptoBulkEntry x + uptoBulkEntries r
def uptoBulkEntry {H : Type} : Lit × DataW H → Nat
  | (.string bytes, d) => bytes.length + uptoBulk d + 1
  | (_, d) => uptoBulk d + 1
 end
def uptoSmall : (H : Type) → List (DataW H) → Bool := fun _ ds => decide (uptoBulkAll ds ≤ 1048576)
def OpenSpec.upto (s : _root_.Go.ChangeSpec) : _root_.Go.OpenSpec := { _root_.Go.OpenSpec.ofChange s with cond := some uptoSmall }

/-- 'layoutlaw11.GraphValid', WHERE WHAT IT READS IS OF BULK AT MOST 1048576: true; the input reads as it did. -/
def graphValidUptoRow : OpenClaim := { program := "ytjdhicmkkmfcgaa", sum := "2360d4225f3736968e93744f7dd478e549d9f4363febc9741f092321dd928d22", func := "layout/layoutlaw11.GraphValid", spec := "graphValid", unfollowed := true, recurses := true, apart := false, narrowed := true }
def GraphValidUptoSaid : Prop := graphValidUptoRow.holds Try.pinned (OpenSpec.upto graphValidSpec)

/-- 'layoutlaw11.GraphParts', WHERE WHAT IT READS IS OF BULK AT MOST 1048576: true; the input reads as it did. -/
def graphPartsUptoRow : OpenClaim := { program := "ytjdhicmkkmfcgaa", sum := "2360d4225f3736968e93744f7dd478e549d9f4363febc9741f092321dd928d22", func := "layout/layoutlaw11.GraphParts", spec := "graphParts", unfollowed := true, recurses := true, apart := false, narrowed := true }
def GraphPartsUptoSaid : Prop := graphPartsUptoRow.holds Try.pinned (OpenSpec.upto graphPartsSpec)

/-- 'layoutlaw11.GraphClusters', WHERE WHAT IT READS IS OF BULK AT MOST 1048576: true; the input reads as it did. -/
def graphClustersUptoRow : OpenClaim := { program := "ytjdhicmkkmfcgaa", sum := "2360d4225f3736968e93744f7dd478e549d9f4363febc9741f092321dd928d22", func := "layout/layoutlaw11.GraphClusters", spec := "graphClusters", unfollowed := true, recurses := true, apart := false, narrowed := true }
def GraphClustersUptoSaid : Prop := graphClustersUptoRow.holds Try.pinned (OpenSpec.upto graphClustersSpec)

/-- 'layoutlaw11.GraphNests', WHERE WHAT IT READS IS OF BULK AT MOST 1048576: true; the input reads as it did. -/
def graphNestsUptoRow : OpenClaim := { program := "ytjdhicmkkmfcgaa", sum := "2360d4225f3736968e93744f7dd478e549d9f4363febc9741f092321dd928d22", func := "layout/layoutlaw11.GraphNests", spec := "graphNests", unfollowed := true, recurses := true, apart := false, narrowed := true }
def GraphNestsUptoSaid : Prop := graphNestsUptoRow.holds Try.pinned (OpenSpec.upto graphNestsSpec)

end Rows
end Go.Proofs.Ytjdhicmkkmfcgaa
