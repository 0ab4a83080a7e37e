/-
  No cell of these rows narrows 'for every input' (looked for: loops, veiled, ifaces, maps, wideKeys, modest, calm, conditions, laid).
  DERIVED. THE GIVEN ROWS OF THIS SEAT. 6 by the template 'for every input the law returns true; each argument reads behind the call as it read before'; 0 by the template 'total and deterministic' (their statements: YteajmcpjcbjolaaTotals.lean).
  GIVEN WITH THE SEED: the statements are not yours to turn. If you find one false, say at which input.
  Laid BY PROGRAM, IN A SANDBOX (cutbox-rows.mjs): the forced cells as the released guide's own fill.sh prints them over the translation de1b38ed07e0ec6d… (all of the seat's roots in one cut). By AI agents, Wed Nov 11 2026. No macro, syntax, notation, axiom, sorry.
-/
import Derived.Test.YteajmcpjcbjolaaChecked
import GoSem.Claim
import GoSem.ClaimJoined
import GoSem.ClaimMapViews
import Derived.JoinedTies
import Derived.KernelRfl
namespace Go.Proofs.Yteajmcpjcbjolaa
/- THE CELL 'sum', in the pinned program and in every row, IS THE sha256 OF THE DUMP (.gsa) THAT YteajmcpjcbjolaaProg.lean LOADS. Nothing in Lean hashes anything: it is a label: what it is worth is what the hold of that sum in a sandbox is worth. -/
noncomputable def Try.pinned : Pinned := { name := "yteajmcpjcbjolaa", sum := "de1b38ed07e0ec6d0383aa1c8608867285affa60449d79b8a2192d533a590f04", checked := Try.checked }
namespace Rows
def none {H : Type} : Left H := { results := [], args := [] }

/-- 'layoutlaw03.BoxMakes': WHATEVER THE INPUT: true; the input reads as it did. -/
def boxMakesSpec : ChangeSpec := { name := "boxMakes", fn := fun _ => fun
  | [d1, d2, d3] => { results := [.lit (.bool true)], args := [d1, d2, d3] }
  | _ => none }
def boxMakesRow : OpenClaim := { program := "yteajmcpjcbjolaa", sum := "de1b38ed07e0ec6d0383aa1c8608867285affa60449d79b8a2192d533a590f04", func := "layout/layoutlaw03.BoxMakes", spec := "boxMakes", apart := false }
def BoxMakesSaid : Prop := boxMakesRow.holds Try.pinned (OpenSpec.ofChange boxMakesSpec)

/-- ITS FALSE NEIGHBOUR: 'it returns false'. Refute it at one input. -/
def boxMakesWrong : ChangeSpec := { name := "boxMakes", fn := fun _ => fun
  | [d1, d2, d3] => { results := [.lit (.bool false)], args := [d1, d2, d3] }
  | _ => none }
def BoxMakesWrongFalsely : Prop := boxMakesRow.holds Try.pinned (OpenSpec.ofChange boxMakesWrong)

/-- 'layoutlaw03.BoxOverlaps': WHATEVER THE INPUT: true; the input reads as it did. -/
def boxOverlapsSpec : ChangeSpec := { name := "boxOverlaps", fn := fun _ => fun
  | [d1, d2] => { results := [.lit (.bool true)], args := [d1, d2] }
  | _ => none }
def boxOverlapsRow : OpenClaim := { program := "yteajmcpjcbjolaa", sum := "de1b38ed07e0ec6d0383aa1c8608867285affa60449d79b8a2192d533a590f04", func := "layout/layoutlaw03.BoxOverlaps", spec := "boxOverlaps", apart := false }
def BoxOverlapsSaid : Prop := boxOverlapsRow.holds Try.pinned (OpenSpec.ofChange boxOverlapsSpec)

/-- ITS FALSE NEIGHBOUR: 'it returns false'. Refute it at one input. -/
def boxOverlapsWrong : ChangeSpec := { name := "boxOverlaps", fn := fun _ => fun
  | [d1, d2] => { results := [.lit (.bool false)], args := [d1, d2] }
  | _ => none }
def BoxOverlapsWrongFalsely : Prop := boxOverlapsRow.holds Try.pinned (OpenSpec.ofChange boxOverlapsWrong)

/-- 'layoutlaw03.BoxHits': WHATEVER THE INPUT: true; the input reads as it did. -/
def boxHitsSpec : ChangeSpec := { name := "boxHits", fn := fun _ => fun
  | [d1, d2] => { results := [.lit (.bool true)], args := [d1, d2] }
  | _ => none }
def boxHitsRow : OpenClaim := { program := "yteajmcpjcbjolaa", sum := "de1b38ed07e0ec6d0383aa1c8608867285affa60449d79b8a2192d533a590f04", func := "layout/layoutlaw03.BoxHits", spec := "boxHits", recurses := true, apart := false }
def BoxHitsSaid : Prop := boxHitsRow.holds Try.pinned (OpenSpec.ofChange boxHitsSpec)

/-- ITS FALSE NEIGHBOUR: 'it returns false'. Refute it at one input. -/
def boxHitsWrong : ChangeSpec := { name := "boxHits", fn := fun _ => fun
  | [d1, d2] => { results := [.lit (.bool false)], args := [d1, d2] }
  | _ => none }
def BoxHitsWrongFalsely : Prop := boxHitsRow.holds Try.pinned (OpenSpec.ofChange boxHitsWrong)

/-- 'layoutlaw03.BoxStrikes': WHATEVER THE INPUT: true; the input reads as it did. -/
def boxStrikesSpec : ChangeSpec := { name := "boxStrikes", fn := fun _ => fun
  | [d1, d2] => { results := [.lit (.bool true)], args := [d1, d2] }
  | _ => none }
def boxStrikesRow : OpenClaim := { program := "yteajmcpjcbjolaa", sum := "de1b38ed07e0ec6d0383aa1c8608867285affa60449d79b8a2192d533a590f04", func := "layout/layoutlaw03.BoxStrikes", spec := "boxStrikes", apart := false }
def BoxStrikesSaid : Prop := boxStrikesRow.holds Try.pinned (OpenSpec.ofChange boxStrikesSpec)

/-- ITS FALSE NEIGHBOUR: 'it returns false'. Refute it at one input. -/
def boxStrikesWrong : ChangeSpec := { name := "boxStrikes", fn := fun _ => fun
  | [d1, d2] => { results := [.lit (.bool false)], args := [d1, d2] }
  | _ => none }
def BoxStrikesWrongFalsely : Prop := boxStrikesRow.holds Try.pinned (OpenSpec.ofChange boxStrikesWrong)

/-- 'layoutlaw03.BoxContains': WHATEVER THE INPUT: true; the input reads as it did. -/
def boxContainsSpec : ChangeSpec := { name := "boxContains", fn := fun _ => fun
  | [d1, d2, d3] => { results := [.lit (.bool true)], args := [d1, d2, d3] }
  | _ => none }
def boxContainsRow : OpenClaim := { program := "yteajmcpjcbjolaa", sum := "de1b38ed07e0ec6d0383aa1c8608867285affa60449d79b8a2192d533a590f04", func := "layout/layoutlaw03.BoxContains", spec := "boxContains", apart := false }
def BoxContainsSaid : Prop := boxContainsRow.holds Try.pinned (OpenSpec.ofChange boxContainsSpec)

/-- ITS FALSE NEIGHBOUR: 'it returns false'. Refute it at one input. -/
def boxContainsWrong : ChangeSpec := { name := "boxContains", fn := fun _ => fun
  | [d1, d2, d3] => { results := [.lit (.bool false)], args := [d1, d2, d3] }
  | _ => none }
def BoxContainsWrongFalsely : Prop := boxContainsRow.holds Try.pinned (OpenSpec.ofChange boxContainsWrong)

/-- 'layoutlaw03.BoxUnions': WHATEVER THE INPUT: true; the input reads as it did. -/
def boxUnionsSpec : ChangeSpec := { name := "boxUnions", fn := fun _ => fun
  | [d1, d2, d3] => { results := [.lit (.bool true)], args := [d1, d2, d3] }
  | _ => none }
def boxUnionsRow : OpenClaim := { program := "yteajmcpjcbjolaa", sum := "de1b38ed07e0ec6d0383aa1c8608867285affa60449d79b8a2192d533a590f04", func := "layout/layoutlaw03.BoxUnions", spec := "boxUnions", apart := false }
def BoxUnionsSaid : Prop := boxUnionsRow.holds Try.pinned (OpenSpec.ofChange boxUnionsSpec)

/-- ITS FALSE NEIGHBOUR: 'it returns false'. Refute it at one input. -/
def boxUnionsWrong : ChangeSpec := { name := "boxUnions", fn := fun _ => fun
  | [d1, d2, d3] => { results := [.lit (.bool false)], args := [d1, d2, d3] }
  | _ => none }
def BoxUnionsWrongFalsely : Prop := boxUnionsRow.holds Try.pinned (OpenSpec.ofChange boxUnionsWrong)

/- THE SECOND FORM. 'bulk': how many values and letters a reading holds, each counted each time it is reached (what is shared counts as often as it is met; a slice's spare places count too). A statement '..UptoSaid' is the law's where the arguments, and the package variables that the reading takes, are together of bulk at most 1048576: NARROWER than '..Said'. Prove '..Said' where nothing that the law and all that it calls make is longer than what came in: it says more and counts as full. Else prove '..UptoSaid'. A law counts once. -/
mutual
def uptoBulk {H : Type} : DataW H → Nat
  | .lit (.string bytes) => bytes.length + 1
  | .lit _ => 1
  | .nil => 1
  | .ptr d => uptoBulk d + 1
  | .slice elems spare => uptoBulkAll elems + uptoBulkAll spare + 1
  | .agg parts => uptoBulkAll parts + 1
  | .iface _ d => uptoBulk d + 1
  | .map entries => uptoBulkEntries entries + 1
  | .held _ => 1
def uptoBulkAll {H : Type} : List (DataW H) → Nat
  | [] => 0
  | d :: r => uptoBulk d + uptoBulkAll r
def uptoBulkEntries {H : Type} : List (Lit × DataW H) → Nat
  | [] => 0
  | x :: r => uptoBulkEntry x + uptoBulkEntries r
def uptoBulkEntry {H : Type} : Lit × DataW H → Nat
  | (.string bytes, d) => bytes.length + uptoBulk d + 1
  | (_, d) => uptoBulk d + 1
 end
def uptoSmall : (H : Type) → List (DataW H) → Bool := fun _ ds => decide (uptoBulkAll ds ≤ 1048576)
def OpenSpec.upto (s : _root_.Go.ChangeSpec) : _root_.Go.OpenSpec := { _root_.Go.OpenSpec.ofChange s with cond := some uptoSmall }

/-- 'layoutlaw03.BoxMakes', WHERE WHAT IT READS IS OF BULK AT MOST 1048576: true; the input reads as it did. -/
def boxMakesUptoRow : OpenClaim := { program := "yteajmcpjcbjolaa", sum := "de1b38ed07e0ec6d0383aa1c8608867285affa60449d79b8a2192d533a590f04", func := "layout/layoutlaw03.BoxMakes", spec := "boxMakes", apart := false, narrowed := true }
def BoxMakesUptoSaid : Prop := boxMakesUptoRow.holds Try.pinned (OpenSpec.upto boxMakesSpec)

/-- 'layoutlaw03.BoxOverlaps', WHERE WHAT IT READS IS OF BULK AT MOST 1048576: true; the input reads as it did. -/
def boxOverlapsUptoRow : OpenClaim := { program := "yteajmcpjcbjolaa", sum := "de1b38ed07e0ec6d0383aa1c8608867285affa60449d79b8a2192d533a590f04", func := "layout/layoutlaw03.BoxOverlaps", spec := "boxOverlaps", apart := false, narrowed := true }
def BoxOverlapsUptoSaid : Prop := boxOverlapsUptoRow.holds Try.pinned (OpenSpec.upto boxOverlapsSpec)

/-- 'layoutlaw03.BoxHits', WHERE WHAT IT READS IS OF BULK AT MOST 1048576: true; the input reads as it did. -/
def boxHitsUptoRow : OpenClaim := { program := "yteajmcpjcbjolaa", sum := "de1b38ed07e0ec6d0383aa1c8608867285affa60449d79b8a2192d533a590f04", func := "layout/layoutlaw03.BoxHits", spec := "boxHits", recurses := true, apart := false, narrowed := true }
def BoxHitsUptoSaid : Prop := boxHitsUptoRow.holds Try.pinned (OpenSpec.upto boxHitsSpec)

/-- 'layoutlaw03.BoxStrikes', WHERE WHAT IT READS IS OF BULK AT MOST 1048576: true; the input reads as it did. -/
def boxStrikesUptoRow : OpenClaim := { program := "yteajmcpjcbjolaa", sum := "de1b38ed07e0ec6d0383aa1c8608867285affa60449d79b8a2192d533a590f04", func := "layout/layoutlaw03.BoxStrikes", spec := "boxStrikes", apart := false, narrowed := true }
def BoxStrikesUptoSaid : Prop := boxStrikesUptoRow.holds Try.pinned (OpenSpec.upto boxStrikesSpec)

/-- 'layoutlaw03.BoxContains', WHERE WHAT IT READS IS OF BULK AT MOST 1048576: true; the input reads as it did. -/
def boxContainsUptoRow : OpenClaim := { program := "yteajmcpjcbjolaa", sum := "de1b38ed07e0ec6d0383aa1c8608867285affa60449d79b8a2192d533a590f04", func := "layout/layoutlaw03.BoxContains", spec := "boxContains", apart := false, narrowed := true }
def BoxContainsUptoSaid : Prop := boxContainsUptoRow.holds Try.pinned (OpenSpec.upto boxContainsSpec)

/-- 'layoutlaw03.BoxUnions', WHERE WHAT IT READS IS OF BULK AT MOST 1048576: true; the input reads as it did. -/
def boxUnionsUptoRow : OpenClaim := { program := "yteajmcpjcbjolaa", sum := "de1b38ed07e0ec6d0383aa1c8608867285affa60449d79b8a2192d533a590f04", func := "layout/layoutlaw03.BoxUnions", spec := "boxUnions", apart := false, narrowed := true }
def BoxUnionsUptoSaid : Prop := boxUnionsUptoRow.holds Try.pinned (OpenSpec.upto boxUnionsSpec)

end Rows
end Go.Proofs.Yteajmcpjcbjolaa
