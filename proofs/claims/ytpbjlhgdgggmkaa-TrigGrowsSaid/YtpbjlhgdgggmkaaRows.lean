/-
  No cell of these rows narrows 'for every input' (looked for: loops, veiled, ifaces, maps, wideKeys, modest, calm, conditions, laid).
  DERIVED. THE GIVEN ROWS OF THIS SEAT. 5 by the template 'for every input the law returns true; each argument reads behind the call as it read before'; 0 by the template 'total and deterministic' (their statements: YtpbjlhgdgggmkaaTotals.lean).
  GIVEN WITH THE SEED: the statements are not yours to turn. If you find one false, say at which input.
  Laid BY PROGRAM, IN A SANDBOX (cutbox-rows.mjs): the forced cells as the released guide's own fill.sh prints them over the translation ff2dc376a4ca5984… (all of the seat's roots in one cut). By AI agents, Wed Nov 11 2026. No macro, syntax, notation, axiom, sorry.
-/
import Derived.Test.YtpbjlhgdgggmkaaChecked
import GoSem.Claim
import GoSem.ClaimJoined
import GoSem.ClaimMapViews
import Derived.JoinedTies
import Derived.KernelRfl
namespace Go.Proofs.Ytpbjlhgdgggmkaa
/- THE CELL 'sum', in the pinned program and in every row, IS THE sha256 OF THE DUMP (.gsa) THAT YtpbjlhgdgggmkaaProg.lean LOADS. Nothing in Lean hashes anything: it is a label: what it is worth is what the hold of that sum in a sandbox is worth. -/
noncomputable def Try.pinned : Pinned := { name := "ytpbjlhgdgggmkaa", sum := "ff2dc376a4ca5984f36b76268c88d3f3bd3d33d7f5ea4741023cc36240616968", checked := Try.checked }
namespace Rows
def none {H : Type} : Left H := { results := [], args := [] }

/-- 'layoutlaw05.TrigAngles': WHATEVER THE INPUT: true; the input reads as it did. -/
def trigAnglesSpec : ChangeSpec := { name := "trigAngles", fn := fun _ => fun
  | [d] => { results := [.lit (.bool true)], args := [d] }
  | _ => none }
def trigAnglesRow : OpenClaim := { program := "ytpbjlhgdgggmkaa", sum := "ff2dc376a4ca5984f36b76268c88d3f3bd3d33d7f5ea4741023cc36240616968", func := "layout/layoutlaw05.TrigAngles", spec := "trigAngles", recurses := true, apart := false }
def TrigAnglesSaid : Prop := trigAnglesRow.holds Try.pinned (OpenSpec.ofChange trigAnglesSpec)

/-- ITS FALSE NEIGHBOUR: 'it returns false'. Refute it at one input. -/
def trigAnglesWrong : ChangeSpec := { name := "trigAngles", fn := fun _ => fun
  | [d] => { results := [.lit (.bool false)], args := [d] }
  | _ => none }
def TrigAnglesWrongFalsely : Prop := trigAnglesRow.holds Try.pinned (OpenSpec.ofChange trigAnglesWrong)

/-- 'layoutlaw05.TrigPolar': WHATEVER THE INPUT: true; the input reads as it did. -/
def trigPolarSpec : ChangeSpec := { name := "trigPolar", fn := fun _ => fun
  | [d1, d2, d3] => { results := [.lit (.bool true)], args := [d1, d2, d3] }
  | _ => none }
def trigPolarRow : OpenClaim := { program := "ytpbjlhgdgggmkaa", sum := "ff2dc376a4ca5984f36b76268c88d3f3bd3d33d7f5ea4741023cc36240616968", func := "layout/layoutlaw05.TrigPolar", spec := "trigPolar", recurses := true, apart := false }
def TrigPolarSaid : Prop := trigPolarRow.holds Try.pinned (OpenSpec.ofChange trigPolarSpec)

/-- ITS FALSE NEIGHBOUR: 'it returns false'. Refute it at one input. -/
def trigPolarWrong : ChangeSpec := { name := "trigPolar", fn := fun _ => fun
  | [d1, d2, d3] => { results := [.lit (.bool false)], args := [d1, d2, d3] }
  | _ => none }
def TrigPolarWrongFalsely : Prop := trigPolarRow.holds Try.pinned (OpenSpec.ofChange trigPolarWrong)

/-- 'layoutlaw05.TrigSymmetric': WHATEVER THE INPUT: true; the input reads as it did. -/
def trigSymmetricSpec : ChangeSpec := { name := "trigSymmetric", fn := fun _ => fun
  | [d] => { results := [.lit (.bool true)], args := [d] }
  | _ => none }
def trigSymmetricRow : OpenClaim := { program := "ytpbjlhgdgggmkaa", sum := "ff2dc376a4ca5984f36b76268c88d3f3bd3d33d7f5ea4741023cc36240616968", func := "layout/layoutlaw05.TrigSymmetric", spec := "trigSymmetric", recurses := true, apart := false }
def TrigSymmetricSaid : Prop := trigSymmetricRow.holds Try.pinned (OpenSpec.ofChange trigSymmetricSpec)

/-- ITS FALSE NEIGHBOUR: 'it returns false'. Refute it at one input. -/
def trigSymmetricWrong : ChangeSpec := { name := "trigSymmetric", fn := fun _ => fun
  | [d] => { results := [.lit (.bool false)], args := [d] }
  | _ => none }
def TrigSymmetricWrongFalsely : Prop := trigSymmetricRow.holds Try.pinned (OpenSpec.ofChange trigSymmetricWrong)

/-- 'layoutlaw05.TrigOpposite': WHATEVER THE INPUT: true; the input reads as it did. -/
def trigOppositeSpec : ChangeSpec := { name := "trigOpposite", fn := fun _ => fun
  | [d1, d2, d3] => { results := [.lit (.bool true)], args := [d1, d2, d3] }
  | _ => none }
def trigOppositeRow : OpenClaim := { program := "ytpbjlhgdgggmkaa", sum := "ff2dc376a4ca5984f36b76268c88d3f3bd3d33d7f5ea4741023cc36240616968", func := "layout/layoutlaw05.TrigOpposite", spec := "trigOpposite", recurses := true, apart := false }
def TrigOppositeSaid : Prop := trigOppositeRow.holds Try.pinned (OpenSpec.ofChange trigOppositeSpec)

/-- ITS FALSE NEIGHBOUR: 'it returns false'. Refute it at one input. -/
def trigOppositeWrong : ChangeSpec := { name := "trigOpposite", fn := fun _ => fun
  | [d1, d2, d3] => { results := [.lit (.bool false)], args := [d1, d2, d3] }
  | _ => none }
def TrigOppositeWrongFalsely : Prop := trigOppositeRow.holds Try.pinned (OpenSpec.ofChange trigOppositeWrong)

/-- 'layoutlaw05.TrigGrows': WHATEVER THE INPUT: true; the input reads as it did. -/
def trigGrowsSpec : ChangeSpec := { name := "trigGrows", fn := fun _ => fun
  | [d1, d2, d3, d4] => { results := [.lit (.bool true)], args := [d1, d2, d3, d4] }
  | _ => none }
def trigGrowsRow : OpenClaim := { program := "ytpbjlhgdgggmkaa", sum := "ff2dc376a4ca5984f36b76268c88d3f3bd3d33d7f5ea4741023cc36240616968", func := "layout/layoutlaw05.TrigGrows", spec := "trigGrows", recurses := true, apart := false }
def TrigGrowsSaid : Prop := trigGrowsRow.holds Try.pinned (OpenSpec.ofChange trigGrowsSpec)

/-- ITS FALSE NEIGHBOUR: 'it returns false'. Refute it at one input. -/
def trigGrowsWrong : ChangeSpec := { name := "trigGrows", fn := fun _ => fun
  | [d1, d2, d3, d4] => { results := [.lit (.bool false)], args := [d1, d2, d3, d4] }
  | _ => none }
def TrigGrowsWrongFalsely : Prop := trigGrowsRow.holds Try.pinned (OpenSpec.ofChange trigGrowsWrong)

/- THE SECOND FORM. 'bulk': how many values and letters a reading holds, each counted each time it is reached (what is shared counts as often as it is met; a slice's spare places count too). A statement '..UptoSaid' is the law's where the arguments, and the package variables that the reading takes, are together of bulk at most 1048576: NARROWER than '..Said'. Prove '..Said' where nothing that the law and all that it calls make is longer than what came in: it says more and counts as full. Else prove '..UptoSaid'. A law counts once. -/
mutual
def uptoBulk {H : Type} : DataW H → Nat
  | .lit (.string bytes) => bytes.length + 1
  | .lit _ => 1
  | .nil => 1
  | .ptr d => uptoBulk d + 1
  | .slice elems spare => uptoBulkAll elems + uptoBulkAll spare + 1
  | .agg parts => uptoBulkAll parts + 1
  | .iface _ d => uptoBulk d + 1
  | .map entries => uptoBulkEntries entries + 1
  | .held _ => 1
def uptoBulkAll {H : Type} : List (DataW H) → Nat
  | [] => 0
  | d :: r => uptoBulk d + uptoBulkAll r
def uptoBulkEntries {H : Type} : List (Lit × DataW H) → Nat
  | [] => 0
  | x :: r => uptoBulkEntry x + uptoBulkEntries r
def uptoBulkEntry {H : Type} : Lit × DataW H → Nat
  | (.string bytes, d) => bytes.length + uptoBulk d + 1
  | (_, d) => uptoBulk d + 1
 end
def uptoSmall : (H : Type) → List (DataW H) → Bool := fun _ ds => decide (uptoBulkAll ds ≤ 1048576)
def OpenSpec.upto (s : _root_.Go.ChangeSpec) : _root_.Go.OpenSpec := { _root_.Go.OpenSpec.ofChange s with cond := some uptoSmall }

/-- 'layoutlaw05.TrigAngles', WHERE WHAT IT READS IS OF BULK AT MOST 1048576: true; the input reads as it did. -/
def trigAnglesUptoRow : OpenClaim := { program := "ytpbjlhgdgggmkaa", sum := "ff2dc376a4ca5984f36b76268c88d3f3bd3d33d7f5ea4741023cc36240616968", func := "layout/layoutlaw05.TrigAngles", spec := "trigAngles", recurses := true, apart := false, narrowed := true }
def TrigAnglesUptoSaid : Prop := trigAnglesUptoRow.holds Try.pinned (OpenSpec.upto trigAnglesSpec)

/-- 'layoutlaw05.TrigPolar', WHERE WHAT IT READS IS OF BULK AT MOST 1048576: true; the input reads as it did. -/
def trigPolarUptoRow : OpenClaim := { program := "ytpbjlhgdgggmkaa", sum := "ff2dc376a4ca5984f36b76268c88d3f3bd3d33d7f5ea4741023cc36240616968", func := "layout/layoutlaw05.TrigPolar", spec := "trigPolar", recurses := true, apart := false, narrowed := true }
def TrigPolarUptoSaid : Prop := trigPolarUptoRow.holds Try.pinned (OpenSpec.upto trigPolarSpec)

/-- 'layoutlaw05.TrigSymmetric', WHERE WHAT IT READS IS OF BULK AT MOST 1048576: true; the input reads as it did. -/
def trigSymmetricUptoRow : OpenClaim := { program := "ytpbjlhgdgggmkaa", sum := "ff2dc376a4ca5984f36b76268c88d3f3bd3d33d7f5ea4741023cc36240616968", func := "layout/layoutlaw05.TrigSymmetric", spec := "trigSymmetric", recurses := true, apart := false, narrowed := true }
def TrigSymmetricUptoSaid : Prop := trigSymmetricUptoRow.holds Try.pinned (OpenSpec.upto trigSymmetricSpec)

/-- 'layoutlaw05.TrigOpposite', WHERE WHAT IT READS IS OF BULK AT MOST 1048576: true; the input reads as it did. -/
def trigOppositeUptoRow : OpenClaim := { program := "ytpbjlhgdgggmkaa", sum := "ff2dc376a4ca5984f36b76268c88d3f3bd3d33d7f5ea4741023cc36240616968", func := "layout/layoutlaw05.TrigOpposite", spec := "trigOpposite", recurses := true, apart := false, narrowed := true }
def TrigOppositeUptoSaid : Prop := trigOppositeUptoRow.holds Try.pinned (OpenSpec.upto trigOppositeSpec)

/-- 'layoutlaw05.TrigGrows', WHERE WHAT IT READS IS OF BULK AT MOST 1048576: true; the input reads as it did. -/
def trigGrowsUptoRow : OpenClaim := { program := "ytpbjlhgdgggmkaa", sum := "ff2dc376a4ca5984f36b76268c88d3f3bd3d33d7f5ea4741023cc36240616968", func := "layout/layoutlaw05.TrigGrows", spec := "trigGrows", recurses := true, apart := false, narrowed := true }
def TrigGrowsUptoSaid : Prop := trigGrowsUptoRow.holds Try.pinned (OpenSpec.upto trigGrowsSpec)

end Rows
end Go.Proofs.Ytpbjlhgdgggmkaa
