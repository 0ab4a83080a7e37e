/-
  No cell of these rows narrows 'for every input' (looked for: loops, veiled, ifaces, maps, wideKeys, modest, calm, conditions, laid).
  DERIVED. THE GIVEN ROWS OF THIS SEAT. 5 by the template 'for every input the law returns true; each argument reads behind the call as it read before'; 0 by the template 'total and deterministic' (their statements: YtdehhmcfhaeheaaTotals.lean).
  GIVEN WITH THE SEED: the statements are not yours to turn. If you find one false, say at which input.
  Laid BY PROGRAM, IN A SANDBOX (cutbox-rows.mjs): the forced cells as the released guide's own fill.sh prints them over the translation c21c7b5e2607a3fb… (all of the seat's roots in one cut). By AI agents, Wed Nov 11 2026. No macro, syntax, notation, axiom, sorry.
-/
import Derived.Test.YtdehhmcfhaeheaaChecked
import GoSem.Claim
import GoSem.ClaimJoined
import GoSem.ClaimMapViews
import Derived.JoinedTies
import Derived.KernelRfl
namespace Go.Proofs.Ytdehhmcfhaeheaa
/- THE CELL 'sum', in the pinned program and in every row, IS THE sha256 OF THE DUMP (.gsa) THAT YtdehhmcfhaeheaaProg.lean LOADS. Nothing in Lean hashes anything: it is a label: what it is worth is what the hold of that sum in a sandbox is worth. -/
noncomputable def Try.pinned : Pinned := { name := "ytdehhmcfhaeheaa", sum := "c21c7b5e2607a3fbff7ea208b96b5a8a9eec63fe2b1312c1b5d951ad762326bc", checked := Try.checked }
namespace Rows
def none {H : Type} : Left H := { results := [], args := [] }

/-- 'layoutlaw45.RadialAngles': WHATEVER THE INPUT: true; the input reads as it did. -/
def radialAnglesSpec : ChangeSpec := { name := "radialAngles", fn := fun _ => fun
  | [d] => { results := [.lit (.bool true)], args := [d] }
  | _ => none }
def radialAnglesRow : OpenClaim := { program := "ytdehhmcfhaeheaa", sum := "c21c7b5e2607a3fbff7ea208b96b5a8a9eec63fe2b1312c1b5d951ad762326bc", func := "layout/layoutlaw45.RadialAngles", spec := "radialAngles", recurses := true, apart := false }
def RadialAnglesSaid : Prop := radialAnglesRow.holds Try.pinned (OpenSpec.ofChange radialAnglesSpec)

/-- ITS FALSE NEIGHBOUR: 'it returns false'. Refute it at one input. -/
def radialAnglesWrong : ChangeSpec := { name := "radialAngles", fn := fun _ => fun
  | [d] => { results := [.lit (.bool false)], args := [d] }
  | _ => none }
def RadialAnglesWrongFalsely : Prop := radialAnglesRow.holds Try.pinned (OpenSpec.ofChange radialAnglesWrong)

/-- 'layoutlaw45.RadialPlaces': WHATEVER THE INPUT: true; the input reads as it did. -/
def radialPlacesSpec : ChangeSpec := { name := "radialPlaces", fn := fun _ => fun
  | [d1, d2] => { results := [.lit (.bool true)], args := [d1, d2] }
  | _ => none }
def radialPlacesRow : OpenClaim := { program := "ytdehhmcfhaeheaa", sum := "c21c7b5e2607a3fbff7ea208b96b5a8a9eec63fe2b1312c1b5d951ad762326bc", func := "layout/layoutlaw45.RadialPlaces", spec := "radialPlaces", recurses := true, apart := false }
def RadialPlacesSaid : Prop := radialPlacesRow.holds Try.pinned (OpenSpec.ofChange radialPlacesSpec)

/-- ITS FALSE NEIGHBOUR: 'it returns false'. Refute it at one input. -/
def radialPlacesWrong : ChangeSpec := { name := "radialPlaces", fn := fun _ => fun
  | [d1, d2] => { results := [.lit (.bool false)], args := [d1, d2] }
  | _ => none }
def RadialPlacesWrongFalsely : Prop := radialPlacesRow.holds Try.pinned (OpenSpec.ofChange radialPlacesWrong)

/-- 'layoutlaw45.RadialSteps': WHATEVER THE INPUT: true; the input reads as it did. -/
def radialStepsSpec : ChangeSpec := { name := "radialSteps", fn := fun _ => fun
  | [d1, d2] => { results := [.lit (.bool true)], args := [d1, d2] }
  | _ => none }
def radialStepsRow : OpenClaim := { program := "ytdehhmcfhaeheaa", sum := "c21c7b5e2607a3fbff7ea208b96b5a8a9eec63fe2b1312c1b5d951ad762326bc", func := "layout/layoutlaw45.RadialSteps", spec := "radialSteps", recurses := true, apart := false }
def RadialStepsSaid : Prop := radialStepsRow.holds Try.pinned (OpenSpec.ofChange radialStepsSpec)

/-- ITS FALSE NEIGHBOUR: 'it returns false'. Refute it at one input. -/
def radialStepsWrong : ChangeSpec := { name := "radialSteps", fn := fun _ => fun
  | [d1, d2] => { results := [.lit (.bool false)], args := [d1, d2] }
  | _ => none }
def RadialStepsWrongFalsely : Prop := radialStepsRow.holds Try.pinned (OpenSpec.ofChange radialStepsWrong)

/-- 'layoutlaw45.RadialSpreads': WHATEVER THE INPUT: true; the input reads as it did. -/
def radialSpreadsSpec : ChangeSpec := { name := "radialSpreads", fn := fun _ => fun
  | [d] => { results := [.lit (.bool true)], args := [d] }
  | _ => none }
def radialSpreadsRow : OpenClaim := { program := "ytdehhmcfhaeheaa", sum := "c21c7b5e2607a3fbff7ea208b96b5a8a9eec63fe2b1312c1b5d951ad762326bc", func := "layout/layoutlaw45.RadialSpreads", spec := "radialSpreads", recurses := true, apart := false }
def RadialSpreadsSaid : Prop := radialSpreadsRow.holds Try.pinned (OpenSpec.ofChange radialSpreadsSpec)

/-- ITS FALSE NEIGHBOUR: 'it returns false'. Refute it at one input. -/
def radialSpreadsWrong : ChangeSpec := { name := "radialSpreads", fn := fun _ => fun
  | [d] => { results := [.lit (.bool false)], args := [d] }
  | _ => none }
def RadialSpreadsWrongFalsely : Prop := radialSpreadsRow.holds Try.pinned (OpenSpec.ofChange radialSpreadsWrong)

/-- 'layoutlaw45.RadialApart': WHATEVER THE INPUT: true; the input reads as it did. -/
def radialApartSpec : ChangeSpec := { name := "radialApart", fn := fun _ => fun
  | [d1, d2] => { results := [.lit (.bool true)], args := [d1, d2] }
  | _ => none }
def radialApartRow : OpenClaim := { program := "ytdehhmcfhaeheaa", sum := "c21c7b5e2607a3fbff7ea208b96b5a8a9eec63fe2b1312c1b5d951ad762326bc", func := "layout/layoutlaw45.RadialApart", spec := "radialApart", recurses := true, apart := false }
def RadialApartSaid : Prop := radialApartRow.holds Try.pinned (OpenSpec.ofChange radialApartSpec)

/-- ITS FALSE NEIGHBOUR: 'it returns false'. Refute it at one input. -/
def radialApartWrong : ChangeSpec := { name := "radialApart", fn := fun _ => fun
  | [d1, d2] => { results := [.lit (.bool false)], args := [d1, d2] }
  | _ => none }
def RadialApartWrongFalsely : Prop := radialApartRow.holds Try.pinned (OpenSpec.ofChange radialApartWrong)

/- THE SECOND FORM. 'bulk': how many values and letters a reading holds, each counted each time it is reached (what is shared counts as often as it is met; a slice's spare places count too). A statement '..UptoSaid' is the law's where the arguments, and the package variables that the reading takes, are together of bulk at most 1048576: NARROWER than '..Said'. Prove '..Said' where nothing that the law and all that it calls make is longer than what came in: it says more and counts as full. Else prove '..UptoSaid'. A law counts once. -/
mutual
def uptoBulk {H : Type} : DataW H → Nat
  | .lit (.string bytes) => bytes.length + 1
  | .lit _ => 1
  | .nil => 1
  | .ptr d => uptoBulk d + 1
  | .slice elems spare => uptoBulkAll elems + uptoBulkAll spare + 1
  | .agg parts => uptoBulkAll parts + 1
  | .iface _ d => uptoBulk d + 1
  | .map entries => uptoBulkEntries entries + 1
  | .held _ => 1
def uptoBulkAll {H : Type} : List (DataW H) → Nat
  | [] => 0
  | d :: r => uptoBulk d + uptoBulkAll r
def uptoBulkEntries {H : Type} : List (Lit × DataW H) → Nat
  | [] => 0
  | x :: r => uptoBulkEntry x + uptoBulkEntries r
def uptoBulkEntry {H : Type} : Lit × DataW H → Nat
  | (.string bytes, d) => bytes.length + uptoBulk d + 1
  | (_, d) => uptoBulk d + 1
 end
def uptoSmall : (H : Type) → List (DataW H) → Bool := fun _ ds => decide (uptoBulkAll ds ≤ 1048576)
def OpenSpec.upto (s : _root_.Go.ChangeSpec) : _root_.Go.OpenSpec := { _root_.Go.OpenSpec.ofChange s with cond := some uptoSmall }

/-- 'layoutlaw45.RadialAngles', WHERE WHAT IT READS IS OF BULK AT MOST 1048576: true; the input reads as it did. -/
def radialAnglesUptoRow : OpenClaim := { program := "ytdehhmcfhaeheaa", sum := "c21c7b5e2607a3fbff7ea208b96b5a8a9eec63fe2b1312c1b5d951ad762326bc", func := "layout/layoutlaw45.RadialAngles", spec := "radialAngles", recurses := true, apart := false, narrowed := true }
def RadialAnglesUptoSaid : Prop := radialAnglesUptoRow.holds Try.pinned (OpenSpec.upto radialAnglesSpec)

/-- 'layoutlaw45.RadialPlaces', WHERE WHAT IT READS IS OF BULK AT MOST 1048576: true; the input reads as it did. -/
def radialPlacesUptoRow : OpenClaim := { program := "ytdehhmcfhaeheaa", sum := "c21c7b5e2607a3fbff7ea208b96b5a8a9eec63fe2b1312c1b5d951ad762326bc", func := "layout/layoutlaw45.RadialPlaces", spec := "radialPlaces", recurses := true, apart := false, narrowed := true }
def RadialPlacesUptoSaid : Prop := radialPlacesUptoRow.holds Try.pinned (OpenSpec.upto radialPlacesSpec)

/-- 'layoutlaw45.RadialSteps', WHERE WHAT IT READS IS OF BULK AT MOST 1048576: true; the input reads as it did. -/
def radialStepsUptoRow : OpenClaim := { program := "ytdehhmcfhaeheaa", sum := "c21c7b5e2607a3fbff7ea208b96b5a8a9eec63fe2b1312c1b5d951ad762326bc", func := "layout/layoutlaw45.RadialSteps", spec := "radialSteps", recurses := true, apart := false, narrowed := true }
def RadialStepsUptoSaid : Prop := radialStepsUptoRow.holds Try.pinned (OpenSpec.upto radialStepsSpec)

/-- 'layoutlaw45.RadialSpreads', WHERE WHAT IT READS IS OF BULK AT MOST 1048576: true; the input reads as it did. -/
def radialSpreadsUptoRow : OpenClaim := { program := "ytdehhmcfhaeheaa", sum := "c21c7b5e2607a3fbff7ea208b96b5a8a9eec63fe2b1312c1b5d951ad762326bc", func := "layout/layoutlaw45.RadialSpreads", spec := "radialSpreads", recurses := true, apart := false, narrowed := true }
def RadialSpreadsUptoSaid : Prop := radialSpreadsUptoRow.holds Try.pinned (OpenSpec.upto radialSpreadsSpec)

/-- 'layoutlaw45.RadialApart', WHERE WHAT IT READS IS OF BULK AT MOST 1048576: true; the input reads as it did. -/
def radialApartUptoRow : OpenClaim := { program := "ytdehhmcfhaeheaa", sum := "c21c7b5e2607a3fbff7ea208b96b5a8a9eec63fe2b1312c1b5d951ad762326bc", func := "layout/layoutlaw45.RadialApart", spec := "radialApart", recurses := true, apart := false, narrowed := true }
def RadialApartUptoSaid : Prop := radialApartUptoRow.holds Try.pinned (OpenSpec.upto radialApartSpec)

end Rows
end Go.Proofs.Ytdehhmcfhaeheaa
