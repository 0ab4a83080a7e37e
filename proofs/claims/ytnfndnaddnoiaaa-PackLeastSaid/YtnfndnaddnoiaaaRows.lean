/-
  No cell of these rows narrows 'for every input' (looked for: loops, veiled, ifaces, maps, wideKeys, modest, calm, conditions, laid).
  DERIVED. THE GIVEN ROWS OF THIS SEAT. 5 by the template 'for every input the law returns true; each argument reads behind the call as it read before'; 0 by the template 'total and deterministic' (their statements: YtnfndnaddnoiaaaTotals.lean).
  GIVEN WITH THE SEED: the statements are not yours to turn. If you find one false, say at which input.
  Laid BY PROGRAM, IN A SANDBOX (cutbox-rows.mjs): the forced cells as the released guide's own fill.sh prints them over the translation 47b87609623541dc… (all of the seat's roots in one cut). By AI agents, Wed Nov 11 2026. No macro, syntax, notation, axiom, sorry.
-/
import Derived.Test.YtnfndnaddnoiaaaChecked
import GoSem.Claim
import GoSem.ClaimJoined
import GoSem.ClaimMapViews
import Derived.JoinedTies
import Derived.KernelRfl
namespace Go.Proofs.Ytnfndnaddnoiaaa
/- THE CELL 'sum', in the pinned program and in every row, IS THE sha256 OF THE DUMP (.gsa) THAT YtnfndnaddnoiaaaProg.lean LOADS. Nothing in Lean hashes anything: it is a label: what it is worth is what the hold of that sum in a sandbox is worth. -/
noncomputable def Try.pinned : Pinned := { name := "ytnfndnaddnoiaaa", sum := "47b87609623541dc86c4c1b0679af59f98bac7b7ba8abf3bb110926037da5368", checked := Try.checked }
namespace Rows
def none {H : Type} : Left H := { results := [], args := [] }

/-- 'layoutlaw46.PackShelves': WHATEVER THE INPUT: true; the input reads as it did. -/
def packShelvesSpec : ChangeSpec := { name := "packShelves", fn := fun _ => fun
  | [d1, d2, d3] => { results := [.lit (.bool true)], args := [d1, d2, d3] }
  | _ => none }
def packShelvesRow : OpenClaim := { program := "ytnfndnaddnoiaaa", sum := "47b87609623541dc86c4c1b0679af59f98bac7b7ba8abf3bb110926037da5368", func := "layout/layoutlaw46.PackShelves", spec := "packShelves", apart := false }
def PackShelvesSaid : Prop := packShelvesRow.holds Try.pinned (OpenSpec.ofChange packShelvesSpec)

/-- ITS FALSE NEIGHBOUR: 'it returns false'. Refute it at one input. -/
def packShelvesWrong : ChangeSpec := { name := "packShelves", fn := fun _ => fun
  | [d1, d2, d3] => { results := [.lit (.bool false)], args := [d1, d2, d3] }
  | _ => none }
def PackShelvesWrongFalsely : Prop := packShelvesRow.holds Try.pinned (OpenSpec.ofChange packShelvesWrong)

/-- 'layoutlaw46.PackDisjoint': WHATEVER THE INPUT: true; the input reads as it did. -/
def packDisjointSpec : ChangeSpec := { name := "packDisjoint", fn := fun _ => fun
  | [d1, d2] => { results := [.lit (.bool true)], args := [d1, d2] }
  | _ => none }
def packDisjointRow : OpenClaim := { program := "ytnfndnaddnoiaaa", sum := "47b87609623541dc86c4c1b0679af59f98bac7b7ba8abf3bb110926037da5368", func := "layout/layoutlaw46.PackDisjoint", spec := "packDisjoint", apart := false }
def PackDisjointSaid : Prop := packDisjointRow.holds Try.pinned (OpenSpec.ofChange packDisjointSpec)

/-- ITS FALSE NEIGHBOUR: 'it returns false'. Refute it at one input. -/
def packDisjointWrong : ChangeSpec := { name := "packDisjoint", fn := fun _ => fun
  | [d1, d2] => { results := [.lit (.bool false)], args := [d1, d2] }
  | _ => none }
def PackDisjointWrongFalsely : Prop := packDisjointRow.holds Try.pinned (OpenSpec.ofChange packDisjointWrong)

/-- 'layoutlaw46.PackBest': WHATEVER THE INPUT: true; the input reads as it did. -/
def packBestSpec : ChangeSpec := { name := "packBest", fn := fun _ => fun
  | [d1, d2] => { results := [.lit (.bool true)], args := [d1, d2] }
  | _ => none }
def packBestRow : OpenClaim := { program := "ytnfndnaddnoiaaa", sum := "47b87609623541dc86c4c1b0679af59f98bac7b7ba8abf3bb110926037da5368", func := "layout/layoutlaw46.PackBest", spec := "packBest", apart := false }
def PackBestSaid : Prop := packBestRow.holds Try.pinned (OpenSpec.ofChange packBestSpec)

/-- ITS FALSE NEIGHBOUR: 'it returns false'. Refute it at one input. -/
def packBestWrong : ChangeSpec := { name := "packBest", fn := fun _ => fun
  | [d1, d2] => { results := [.lit (.bool false)], args := [d1, d2] }
  | _ => none }
def PackBestWrongFalsely : Prop := packBestRow.holds Try.pinned (OpenSpec.ofChange packBestWrong)

/-- 'layoutlaw46.PackApart': WHATEVER THE INPUT: true; the input reads as it did. -/
def packApartSpec : ChangeSpec := { name := "packApart", fn := fun _ => fun
  | [d1, d2, d3] => { results := [.lit (.bool true)], args := [d1, d2, d3] }
  | _ => none }
def packApartRow : OpenClaim := { program := "ytnfndnaddnoiaaa", sum := "47b87609623541dc86c4c1b0679af59f98bac7b7ba8abf3bb110926037da5368", func := "layout/layoutlaw46.PackApart", spec := "packApart", apart := false }
def PackApartSaid : Prop := packApartRow.holds Try.pinned (OpenSpec.ofChange packApartSpec)

/-- ITS FALSE NEIGHBOUR: 'it returns false'. Refute it at one input. -/
def packApartWrong : ChangeSpec := { name := "packApart", fn := fun _ => fun
  | [d1, d2, d3] => { results := [.lit (.bool false)], args := [d1, d2, d3] }
  | _ => none }
def PackApartWrongFalsely : Prop := packApartRow.holds Try.pinned (OpenSpec.ofChange packApartWrong)

/-- 'layoutlaw46.PackLeast': WHATEVER THE INPUT: true; the input reads as it did. -/
def packLeastSpec : ChangeSpec := { name := "packLeast", fn := fun _ => fun
  | [d1, d2, d3] => { results := [.lit (.bool true)], args := [d1, d2, d3] }
  | _ => none }
def packLeastRow : OpenClaim := { program := "ytnfndnaddnoiaaa", sum := "47b87609623541dc86c4c1b0679af59f98bac7b7ba8abf3bb110926037da5368", func := "layout/layoutlaw46.PackLeast", spec := "packLeast", apart := false }
def PackLeastSaid : Prop := packLeastRow.holds Try.pinned (OpenSpec.ofChange packLeastSpec)

/-- ITS FALSE NEIGHBOUR: 'it returns false'. Refute it at one input. -/
def packLeastWrong : ChangeSpec := { name := "packLeast", fn := fun _ => fun
  | [d1, d2, d3] => { results := [.lit (.bool false)], args := [d1, d2, d3] }
  | _ => none }
def PackLeastWrongFalsely : Prop := packLeastRow.holds Try.pinned (OpenSpec.ofChange packLeastWrong)

/- THE SECOND FORM. 'bulk': how many values and letters a reading holds, each counted each time it is reached (what is shared counts as often as it is met; a slice's spare places count too). A statement '..UptoSaid' is the law's where the arguments, and the package variables that the reading takes, are together of bulk at most 1048576: NARROWER than '..Said'. Prove '..Said' where nothing that the law and all that it calls make is longer than what came in: it says more and counts as full. Else prove '..UptoSaid'. A law counts once. -/
mutual
def uptoBulk {H : Type} : DataW H → Nat
  | .lit (.string bytes) => bytes.length + 1
  | .lit _ => 1
  | .nil => 1
  | .ptr d => uptoBulk d + 1
  | .slice elems spare => uptoBulkAll elems + uptoBulkAll spare + 1
  | .agg parts => uptoBulkAll parts + 1
  | .iface _ d => uptoBulk d + 1
  | .map entries => uptoBulkEntries entries + 1
  | .held _ => 1
def uptoBulkAll {H : Type} : List (DataW H) → Nat
  | [] => 0
  | d :: r => uptoBulk d + uptoBulkAll r
def uptoBulkEntries {H : Type} : List (Lit × DataW H) → Nat
  | [] => 0
  | x :: r => uptoBulkEntry x + uptoBulkEntries r
def uptoBulkEntry {H : Type} : Lit × DataW H → Nat
  | (.string bytes, d) => bytes.length + uptoBulk d + 1
  | (_, d) => uptoBulk d + 1
 end
def uptoSmall : (H : Type) → List (DataW H) → Bool := fun _ ds => decide (uptoBulkAll ds ≤ 1048576)
def OpenSpec.upto (s : _root_.Go.ChangeSpec) : _root_.Go.OpenSpec := { _root_.Go.OpenSpec.ofChange s with cond := some uptoSmall }

/-- 'layoutlaw46.PackShelves', WHERE WHAT IT READS IS OF BULK AT MOST 1048576: true; the input reads as it did. -/
def packShelvesUptoRow : OpenClaim := { program := "ytnfndnaddnoiaaa", sum := "47b87609623541dc86c4c1b0679af59f98bac7b7ba8abf3bb110926037da5368", func := "layout/layoutlaw46.PackShelves", spec := "packShelves", apart := false, narrowed := true }
def PackShelvesUptoSaid : Prop := packShelvesUptoRow.holds Try.pinned (OpenSpec.upto packShelvesSpec)

/-- 'layoutlaw46.PackDisjoint', WHERE WHAT IT READS IS OF BULK AT MOST 1048576: true; the input reads as it did. -/
def packDisjointUptoRow : OpenClaim := { program := "ytnfndnaddnoiaaa", sum := "47b87609623541dc86c4c1b0679af59f98bac7b7ba8abf3bb110926037da5368", func := "layout/layoutlaw46.PackDisjoint", spec := "packDisjoint", apart := false, narrowed := true }
def PackDisjointUptoSaid : Prop := packDisjointUptoRow.holds Try.pinned (OpenSpec.upto packDisjointSpec)

/-- 'layoutlaw46.PackBest', WHERE WHAT IT READS IS OF BULK AT MOST 1048576: true; the input reads as it did. -/
def packBestUptoRow : OpenClaim := { program := "ytnfndnaddnoiaaa", sum := "47b87609623541dc86c4c1b0679af59f98bac7b7ba8abf3bb110926037da5368", func := "layout/layoutlaw46.PackBest", spec := "packBest", apart := false, narrowed := true }
def PackBestUptoSaid : Prop := packBestUptoRow.holds Try.pinned (OpenSpec.upto packBestSpec)

/-- 'layoutlaw46.PackApart', WHERE WHAT IT READS IS OF BULK AT MOST 1048576: true; the input reads as it did. -/
def packApartUptoRow : OpenClaim := { program := "ytnfndnaddnoiaaa", sum := "47b87609623541dc86c4c1b0679af59f98bac7b7ba8abf3bb110926037da5368", func := "layout/layoutlaw46.PackApart", spec := "packApart", apart := false, narrowed := true }
def PackApartUptoSaid : Prop := packApartUptoRow.holds Try.pinned (OpenSpec.upto packApartSpec)

/-- 'layoutlaw46.PackLeast', WHERE WHAT IT READS IS OF BULK AT MOST 1048576: true; the input reads as it did. -/
def packLeastUptoRow : OpenClaim := { program := "ytnfndnaddnoiaaa", sum := "47b87609623541dc86c4c1b0679af59f98bac7b7ba8abf3bb110926037da5368", func := "layout/layoutlaw46.PackLeast", spec := "packLeast", apart := false, narrowed := true }
def PackLeastUptoSaid : Prop := packLeastUptoRow.holds Try.pinned (OpenSpec.upto packLeastSpec)

end Rows
end Go.Proofs.Ytnfndnaddnoiaaa
