/-
  No cell of these rows narrows 'for every input' (looked for: loops, veiled, ifaces, maps, wideKeys, modest, calm, conditions, laid).
  DERIVED. THE GIVEN ROWS OF THIS SEAT. 5 by the template 'for every input the law returns true; each argument reads behind the call as it read before'; 0 by the template 'total and deterministic' (their statements: YtindllmeeckfcaaTotals.lean).
  GIVEN WITH THE SEED: the statements are not yours to turn. If you find one false, say at which input.
  Laid BY PROGRAM, IN A SANDBOX (cutbox-rows.mjs): the forced cells as the released guide's own fill.sh prints them over the translation 75cc8429cd302666… (all of the seat's roots in one cut). By AI agents, Wed Nov 11 2026. No macro, syntax, notation, axiom, sorry.
-/
import Derived.Test.YtindllmeeckfcaaChecked
import GoSem.Claim
import GoSem.ClaimJoined
import GoSem.ClaimMapViews
import Derived.JoinedTies
import Derived.KernelRfl
namespace Go.Proofs.Ytindllmeeckfcaa
/- THE CELL 'sum', in the pinned program and in every row, IS THE sha256 OF THE DUMP (.gsa) THAT YtindllmeeckfcaaProg.lean LOADS. Nothing in Lean hashes anything: it is a label: what it is worth is what the hold of that sum in a sandbox is worth. -/
noncomputable def Try.pinned : Pinned := { name := "ytindllmeeckfcaa", sum := "75cc8429cd30266659852a0198e83dbef197a9d188c0e16aabc4474f4641b343", checked := Try.checked }
namespace Rows
def none {H : Type} : Left H := { results := [], args := [] }

/-- 'layoutlaw47.CompoundContains': WHATEVER THE INPUT: true; the input reads as it did. -/
def compoundContainsSpec : ChangeSpec := { name := "compoundContains", fn := fun _ => fun
  | [d1, d2, d3] => { results := [.lit (.bool true)], args := [d1, d2, d3] }
  | _ => none }
def compoundContainsRow : OpenClaim := { program := "ytindllmeeckfcaa", sum := "75cc8429cd30266659852a0198e83dbef197a9d188c0e16aabc4474f4641b343", func := "layout/layoutlaw47.CompoundContains", spec := "compoundContains", unfollowed := true, recurses := true, apart := false }
def CompoundContainsSaid : Prop := compoundContainsRow.holds Try.pinned (OpenSpec.ofChange compoundContainsSpec)

/-- ITS FALSE NEIGHBOUR: 'it returns false'. Refute it at one input. -/
def compoundContainsWrong : ChangeSpec := { name := "compoundContains", fn := fun _ => fun
  | [d1, d2, d3] => { results := [.lit (.bool false)], args := [d1, d2, d3] }
  | _ => none }
def CompoundContainsWrongFalsely : Prop := compoundContainsRow.holds Try.pinned (OpenSpec.ofChange compoundContainsWrong)

/-- 'layoutlaw47.CompoundSizes': WHATEVER THE INPUT: true; the input reads as it did. -/
def compoundSizesSpec : ChangeSpec := { name := "compoundSizes", fn := fun _ => fun
  | [d1, d2, d3] => { results := [.lit (.bool true)], args := [d1, d2, d3] }
  | _ => none }
def compoundSizesRow : OpenClaim := { program := "ytindllmeeckfcaa", sum := "75cc8429cd30266659852a0198e83dbef197a9d188c0e16aabc4474f4641b343", func := "layout/layoutlaw47.CompoundSizes", spec := "compoundSizes", unfollowed := true, recurses := true, apart := false }
def CompoundSizesSaid : Prop := compoundSizesRow.holds Try.pinned (OpenSpec.ofChange compoundSizesSpec)

/-- ITS FALSE NEIGHBOUR: 'it returns false'. Refute it at one input. -/
def compoundSizesWrong : ChangeSpec := { name := "compoundSizes", fn := fun _ => fun
  | [d1, d2, d3] => { results := [.lit (.bool false)], args := [d1, d2, d3] }
  | _ => none }
def CompoundSizesWrongFalsely : Prop := compoundSizesRow.holds Try.pinned (OpenSpec.ofChange compoundSizesWrong)

/-- 'layoutlaw47.CompoundPlaces': WHATEVER THE INPUT: true; the input reads as it did. -/
def compoundPlacesSpec : ChangeSpec := { name := "compoundPlaces", fn := fun _ => fun
  | [d1, d2, d3] => { results := [.lit (.bool true)], args := [d1, d2, d3] }
  | _ => none }
def compoundPlacesRow : OpenClaim := { program := "ytindllmeeckfcaa", sum := "75cc8429cd30266659852a0198e83dbef197a9d188c0e16aabc4474f4641b343", func := "layout/layoutlaw47.CompoundPlaces", spec := "compoundPlaces", unfollowed := true, recurses := true, apart := false }
def CompoundPlacesSaid : Prop := compoundPlacesRow.holds Try.pinned (OpenSpec.ofChange compoundPlacesSpec)

/-- ITS FALSE NEIGHBOUR: 'it returns false'. Refute it at one input. -/
def compoundPlacesWrong : ChangeSpec := { name := "compoundPlaces", fn := fun _ => fun
  | [d1, d2, d3] => { results := [.lit (.bool false)], args := [d1, d2, d3] }
  | _ => none }
def CompoundPlacesWrongFalsely : Prop := compoundPlacesRow.holds Try.pinned (OpenSpec.ofChange compoundPlacesWrong)

/-- 'layoutlaw47.CompoundChecks': WHATEVER THE INPUT: true; the input reads as it did. -/
def compoundChecksSpec : ChangeSpec := { name := "compoundChecks", fn := fun _ => fun
  | [d1, d2, d3] => { results := [.lit (.bool true)], args := [d1, d2, d3] }
  | _ => none }
def compoundChecksRow : OpenClaim := { program := "ytindllmeeckfcaa", sum := "75cc8429cd30266659852a0198e83dbef197a9d188c0e16aabc4474f4641b343", func := "layout/layoutlaw47.CompoundChecks", spec := "compoundChecks", unfollowed := true, recurses := true, apart := false }
def CompoundChecksSaid : Prop := compoundChecksRow.holds Try.pinned (OpenSpec.ofChange compoundChecksSpec)

/-- ITS FALSE NEIGHBOUR: 'it returns false'. Refute it at one input. -/
def compoundChecksWrong : ChangeSpec := { name := "compoundChecks", fn := fun _ => fun
  | [d1, d2, d3] => { results := [.lit (.bool false)], args := [d1, d2, d3] }
  | _ => none }
def CompoundChecksWrongFalsely : Prop := compoundChecksRow.holds Try.pinned (OpenSpec.ofChange compoundChecksWrong)

/-- 'layoutlaw47.CompoundApart': WHATEVER THE INPUT: true; the input reads as it did. -/
def compoundApartSpec : ChangeSpec := { name := "compoundApart", fn := fun _ => fun
  | [d1, d2, d3] => { results := [.lit (.bool true)], args := [d1, d2, d3] }
  | _ => none }
def compoundApartRow : OpenClaim := { program := "ytindllmeeckfcaa", sum := "75cc8429cd30266659852a0198e83dbef197a9d188c0e16aabc4474f4641b343", func := "layout/layoutlaw47.CompoundApart", spec := "compoundApart", unfollowed := true, recurses := true, apart := false }
def CompoundApartSaid : Prop := compoundApartRow.holds Try.pinned (OpenSpec.ofChange compoundApartSpec)

/-- ITS FALSE NEIGHBOUR: 'it returns false'. Refute it at one input. -/
def compoundApartWrong : ChangeSpec := { name := "compoundApart", fn := fun _ => fun
  | [d1, d2, d3] => { results := [.lit (.bool false)], args := [d1, d2, d3] }
  | _ => none }
def CompoundApartWrongFalsely : Prop := compoundApartRow.holds Try.pinned (OpenSpec.ofChange compoundApartWrong)

/- THE SECOND FORM. 'bulk': how many values and letters a reading holds, each counted each time it is reached (what is shared counts as often as it is met; a slice's spare places count too). A statement '..UptoSaid' is the law's where the arguments, and the package variables that the reading takes, are together of bulk at most 1048576: NARROWER than '..Said'. Prove '..Said' where nothing that the law and all that it calls make is longer than what came in: it says more and counts as full. Else prove '..UptoSaid'. A law counts once. -/
mutual
def uptoBulk {H : Type} : DataW H → Nat
  | .lit (.string bytes) => bytes.length + 1
  | .lit _ => 1
  | .nil => 1
  | .ptr d => uptoBulk d + 1
  | .slice elems spare => uptoBulkAll elems + uptoBulkAll spare + 1
  | .agg parts => uptoBulkAll parts + 1
  | .iface _ d => uptoBulk d + 1
  | .map entries => uptoBulkEntries entries + 1
  | .held _ => 1
def uptoBulkAll {H : Type} : List (DataW H) → Nat
  | [] => 0
  | d :: r => uptoBulk d + uptoBulkAll r
def uptoBulkEntries {H : Type} : List (Lit × DataW H) → Nat
  | [] => 0
  | x :: r => uptoBulkEntry x + uptoBulkEntries r
def uptoBulkEntry {H : Type} : Lit × DataW H → Nat
  | (.string bytes, d) => bytes.length + uptoBulk d + 1
  | (_, d) => uptoBulk d + 1
 end
def uptoSmall : (H : Type) → List (DataW H) → Bool := fun _ ds => decide (uptoBulkAll ds ≤ 1048576)
def OpenSpec.upto (s : _root_.Go.ChangeSpec) : _root_.Go.OpenSpec := { _root_.Go.OpenSpec.ofChange s with cond := some uptoSmall }

/-- 'layoutlaw47.CompoundContains', WHERE WHAT IT READS IS OF BULK AT MOST 1048576: true; the input reads as it did. -/
def compoundContainsUptoRow : OpenClaim := { program := "ytindllmeeckfcaa", sum := "75cc8429cd30266659852a0198e83dbef197a9d188c0e16aabc4474f4641b343", func := "layout/layoutlaw47.CompoundContains", spec := "compoundContains", unfollowed := true, recurses := true, apart := false, narrowed := true }
def CompoundContainsUptoSaid : Prop := compoundContainsUptoRow.holds Try.pinned (OpenSpec.upto compoundContainsSpec)

/-- 'layoutlaw47.CompoundSizes', WHERE WHAT IT READS IS OF BULK AT MOST 1048576: true; the input reads as it did. -/
def compoundSizesUptoRow : OpenClaim := { program := "ytindllmeeckfcaa", sum := "75cc8429cd30266659852a0198e83dbef197a9d188c0e16aabc4474f4641b343", func := "layout/layoutlaw47.CompoundSizes", spec := "compoundSizes", unfollowed := true, recurses := true, apart := false, narrowed := true }
def CompoundSizesUptoSaid : Prop := compoundSizesUptoRow.holds Try.pinned (OpenSpec.upto compoundSizesSpec)

/-- 'layoutlaw47.CompoundPlaces', WHERE WHAT IT READS IS OF BULK AT MOST 1048576: true; the input reads as it did. -/
def compoundPlacesUptoRow : OpenClaim := { program := "ytindllmeeckfcaa", sum := "75cc8429cd30266659852a0198e83dbef197a9d188c0e16aabc4474f4641b343", func := "layout/layoutlaw47.CompoundPlaces", spec := "compoundPlaces", unfollowed := true, recurses := true, apart := false, narrowed := true }
def CompoundPlacesUptoSaid : Prop := compoundPlacesUptoRow.holds Try.pinned (OpenSpec.upto compoundPlacesSpec)

/-- 'layoutlaw47.CompoundChecks', WHERE WHAT IT READS IS OF BULK AT MOST 1048576: true; the input reads as it did. -/
def compoundChecksUptoRow : OpenClaim := { program := "ytindllmeeckfcaa", sum := "75cc8429cd30266659852a0198e83dbef197a9d188c0e16aabc4474f4641b343", func := "layout/layoutlaw47.CompoundChecks", spec := "compoundChecks", unfollowed := true, recurses := true, apart := false, narrowed := true }
def CompoundChecksUptoSaid : Prop := compoundChecksUptoRow.holds Try.pinned (OpenSpec.upto compoundChecksSpec)

/-- 'layoutlaw47.CompoundApart', WHERE WHAT IT READS IS OF BULK AT MOST 1048576: true; the input reads as it did. -/
def compoundApartUptoRow : OpenClaim := { program := "ytindllmeeckfcaa", sum := "75cc8429cd30266659852a0198e83dbef197a9d188c0e16aabc4474f4641b343", func := "layout/layoutlaw47.CompoundApart", spec := "compoundApart", unfollowed := true, recurses := true, apart := false, narrowed := true }
def CompoundApartUptoSaid : Prop := compoundApartUptoRow.holds Try.pinned (OpenSpec.upto compoundApartSpec)

end Rows
end Go.Proofs.Ytindllmeeckfcaa
