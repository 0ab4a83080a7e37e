/-
  No cell of these rows narrows 'for every input' (looked for: loops, veiled, ifaces, maps, wideKeys, modest, calm, conditions, laid).
  DERIVED. THE GIVEN ROWS OF THIS SEAT. 5 by the template 'for every input the law returns true; each argument reads behind the call as it read before'; 0 by the template 'total and deterministic' (their statements: YthnilbkkihmpoaaTotals.lean).
  GIVEN WITH THE SEED: the statements are not yours to turn. If you find one false, say at which input.
  Laid BY PROGRAM, IN A SANDBOX (cutbox-rows.mjs): the forced cells as the released guide's own fill.sh prints them over the translation ad9d54bc84d50215… (all of the seat's roots in one cut). By AI agents, Wed Nov 11 2026. No macro, syntax, notation, axiom, sorry.
-/
import Derived.Test.YthnilbkkihmpoaaChecked
import GoSem.Claim
import GoSem.ClaimJoined
import GoSem.ClaimMapViews
import Derived.JoinedTies
import Derived.KernelRfl
namespace Go.Proofs.Ythnilbkkihmpoaa
/- THE CELL 'sum', in the pinned program and in every row, IS THE sha256 OF THE DUMP (.gsa) THAT YthnilbkkihmpoaaProg.lean LOADS. Nothing in Lean hashes anything: it is a label: what it is worth is what the hold of that sum in a sandbox is worth. -/
noncomputable def Try.pinned : Pinned := { name := "ythnilbkkihmpoaa", sum := "ad9d54bc84d502154b5765ab25bf226ef092ba789a8d815fd14d71b576dedcb9", checked := Try.checked }
namespace Rows
def none {H : Type} : Left H := { results := [], args := [] }

/-- 'layoutlaw51.ChangeApplies': WHATEVER THE INPUT: true; the input reads as it did. -/
def changeAppliesSpec : ChangeSpec := { name := "changeApplies", fn := fun _ => fun
  | [d1, d2] => { results := [.lit (.bool true)], args := [d1, d2] }
  | _ => none }
def changeAppliesRow : OpenClaim := { program := "ythnilbkkihmpoaa", sum := "ad9d54bc84d502154b5765ab25bf226ef092ba789a8d815fd14d71b576dedcb9", func := "layout/layoutlaw51.ChangeApplies", spec := "changeApplies", unfollowed := true, recurses := true, apart := false }
def ChangeAppliesSaid : Prop := changeAppliesRow.holds Try.pinned (OpenSpec.ofChange changeAppliesSpec)

/-- ITS FALSE NEIGHBOUR: 'it returns false'. Refute it at one input. -/
def changeAppliesWrong : ChangeSpec := { name := "changeApplies", fn := fun _ => fun
  | [d1, d2] => { results := [.lit (.bool false)], args := [d1, d2] }
  | _ => none }
def ChangeAppliesWrongFalsely : Prop := changeAppliesRow.holds Try.pinned (OpenSpec.ofChange changeAppliesWrong)

/-- 'layoutlaw51.ChangeUndoes': WHATEVER THE INPUT: true; the input reads as it did. -/
def changeUndoesSpec : ChangeSpec := { name := "changeUndoes", fn := fun _ => fun
  | [d1, d2] => { results := [.lit (.bool true)], args := [d1, d2] }
  | _ => none }
def changeUndoesRow : OpenClaim := { program := "ythnilbkkihmpoaa", sum := "ad9d54bc84d502154b5765ab25bf226ef092ba789a8d815fd14d71b576dedcb9", func := "layout/layoutlaw51.ChangeUndoes", spec := "changeUndoes", unfollowed := true, recurses := true, apart := false }
def ChangeUndoesSaid : Prop := changeUndoesRow.holds Try.pinned (OpenSpec.ofChange changeUndoesSpec)

/-- ITS FALSE NEIGHBOUR: 'it returns false'. Refute it at one input. -/
def changeUndoesWrong : ChangeSpec := { name := "changeUndoes", fn := fun _ => fun
  | [d1, d2] => { results := [.lit (.bool false)], args := [d1, d2] }
  | _ => none }
def ChangeUndoesWrongFalsely : Prop := changeUndoesRow.holds Try.pinned (OpenSpec.ofChange changeUndoesWrong)

/-- 'layoutlaw51.ChangeInverts': WHATEVER THE INPUT: true; the input reads as it did. -/
def changeInvertsSpec : ChangeSpec := { name := "changeInverts", fn := fun _ => fun
  | [d1, d2] => { results := [.lit (.bool true)], args := [d1, d2] }
  | _ => none }
def changeInvertsRow : OpenClaim := { program := "ythnilbkkihmpoaa", sum := "ad9d54bc84d502154b5765ab25bf226ef092ba789a8d815fd14d71b576dedcb9", func := "layout/layoutlaw51.ChangeInverts", spec := "changeInverts", unfollowed := true, recurses := true, apart := false }
def ChangeInvertsSaid : Prop := changeInvertsRow.holds Try.pinned (OpenSpec.ofChange changeInvertsSpec)

/-- ITS FALSE NEIGHBOUR: 'it returns false'. Refute it at one input. -/
def changeInvertsWrong : ChangeSpec := { name := "changeInverts", fn := fun _ => fun
  | [d1, d2] => { results := [.lit (.bool false)], args := [d1, d2] }
  | _ => none }
def ChangeInvertsWrongFalsely : Prop := changeInvertsRow.holds Try.pinned (OpenSpec.ofChange changeInvertsWrong)

/-- 'layoutlaw51.ChangeRuns': WHATEVER THE INPUT: true; the input reads as it did. -/
def changeRunsSpec : ChangeSpec := { name := "changeRuns", fn := fun _ => fun
  | [d1, d2] => { results := [.lit (.bool true)], args := [d1, d2] }
  | _ => none }
def changeRunsRow : OpenClaim := { program := "ythnilbkkihmpoaa", sum := "ad9d54bc84d502154b5765ab25bf226ef092ba789a8d815fd14d71b576dedcb9", func := "layout/layoutlaw51.ChangeRuns", spec := "changeRuns", unfollowed := true, recurses := true, apart := false }
def ChangeRunsSaid : Prop := changeRunsRow.holds Try.pinned (OpenSpec.ofChange changeRunsSpec)

/-- ITS FALSE NEIGHBOUR: 'it returns false'. Refute it at one input. -/
def changeRunsWrong : ChangeSpec := { name := "changeRuns", fn := fun _ => fun
  | [d1, d2] => { results := [.lit (.bool false)], args := [d1, d2] }
  | _ => none }
def ChangeRunsWrongFalsely : Prop := changeRunsRow.holds Try.pinned (OpenSpec.ofChange changeRunsWrong)

/-- 'layoutlaw51.ChangeKeeps': WHATEVER THE INPUT: true; the input reads as it did. -/
def changeKeepsSpec : ChangeSpec := { name := "changeKeeps", fn := fun _ => fun
  | [d1, d2] => { results := [.lit (.bool true)], args := [d1, d2] }
  | _ => none }
def changeKeepsRow : OpenClaim := { program := "ythnilbkkihmpoaa", sum := "ad9d54bc84d502154b5765ab25bf226ef092ba789a8d815fd14d71b576dedcb9", func := "layout/layoutlaw51.ChangeKeeps", spec := "changeKeeps", unfollowed := true, recurses := true, apart := false }
def ChangeKeepsSaid : Prop := changeKeepsRow.holds Try.pinned (OpenSpec.ofChange changeKeepsSpec)

/-- ITS FALSE NEIGHBOUR: 'it returns false'. Refute it at one input. -/
def changeKeepsWrong : ChangeSpec := { name := "changeKeeps", fn := fun _ => fun
  | [d1, d2] => { results := [.lit (.bool false)], args := [d1, d2] }
  | _ => none }
def ChangeKeepsWrongFalsely : Prop := changeKeepsRow.holds Try.pinned (OpenSpec.ofChange changeKeepsWrong)

/- THE SECOND FORM. 'bulk': how many values and letters a reading holds, each counted each time it is reached (what is shared counts as often as it is met; a slice's spare places count too). A statement '..UptoSaid' is the law's where the arguments, and the package variables that the reading takes, are together of bulk at most 1048576: NARROWER than '..Said'. Prove '..Said' where nothing that the law and all that it calls make is longer than what came in: it says more and counts as full. Else prove '..UptoSaid'. A law counts once. -/
mutual
def uptoBulk {H : Type} : DataW H → Nat
  | .lit (.string bytes) => bytes.length + 1
  | .lit _ => 1
  | .nil => 1
  | .ptr d => uptoBulk d + 1
  | .slice elems spare => uptoBulkAll elems + uptoBulkAll spare + 1
  | .agg parts => uptoBulkAll parts + 1
  | .iface _ d => uptoBulk d + 1
  | .map entries => uptoBulkEntries entries + 1
  | .held _ => 1
def uptoBulkAll {H : Type} : List (DataW H) → Nat
  | [] => 0
  | d :: r => uptoBulk d + uptoBulkAll r
def uptoBulkEntries {H : Type} : List (Lit × DataW H) → Nat
  | [] => 0
  | x :: r => uptoBulkEntry x + uptoBulkEntries r
def uptoBulkEntry {H : Type} : Lit × DataW H → Nat
  | (.string bytes, d) => bytes.length + uptoBulk d + 1
  | (_, d) => uptoBulk d + 1
 end
def uptoSmall : (H : Type) → List (DataW H) → Bool := fun _ ds => decide (uptoBulkAll ds ≤ 1048576)
def OpenSpec.upto (s : _root_.Go.ChangeSpec) : _root_.Go.OpenSpec := { _root_.Go.OpenSpec.ofChange s with cond := some uptoSmall }

/-- 'layoutlaw51.ChangeApplies', WHERE WHAT IT READS IS OF BULK AT MOST 1048576: true; the input reads as it did. -/
def changeAppliesUptoRow : OpenClaim := { program := "ythnilbkkihmpoaa", sum := "ad9d54bc84d502154b5765ab25bf226ef092ba789a8d815fd14d71b576dedcb9", func := "layout/layoutlaw51.ChangeApplies", spec := "changeApplies", unfollowed := true, recurses := true, apart := false, narrowed := true }
def ChangeAppliesUptoSaid : Prop := changeAppliesUptoRow.holds Try.pinned (OpenSpec.upto changeAppliesSpec)

/-- 'layoutlaw51.ChangeUndoes', WHERE WHAT IT READS IS OF BULK AT MOST 1048576: true; the input reads as it did. -/
def changeUndoesUptoRow : OpenClaim := { program := "ythnilbkkihmpoaa", sum := "ad9d54bc84d502154b5765ab25bf226ef092ba789a8d815fd14d71b576dedcb9", func := "layout/layoutlaw51.ChangeUndoes", spec := "changeUndoes", unfollowed := true, recurses := true, apart := false, narrowed := true }
def ChangeUndoesUptoSaid : Prop := changeUndoesUptoRow.holds Try.pinned (OpenSpec.upto changeUndoesSpec)

/-- 'layoutlaw51.ChangeInverts', WHERE WHAT IT READS IS OF BULK AT MOST 1048576: true; the input reads as it did. -/
def changeInvertsUptoRow : OpenClaim := { program := "ythnilbkkihmpoaa", sum := "ad9d54bc84d502154b5765ab25bf226ef092ba789a8d815fd14d71b576dedcb9", func := "layout/layoutlaw51.ChangeInverts", spec := "changeInverts", unfollowed := true, recurses := true, apart := false, narrowed := true }
def ChangeInvertsUptoSaid : Prop := changeInvertsUptoRow.holds Try.pinned (OpenSpec.upto changeInvertsSpec)

/-- 'layoutlaw51.ChangeRuns', WHERE WHAT IT READS IS OF BULK AT MOST 1048576: true; the input reads as it did. -/
def changeRunsUptoRow : OpenClaim := { program := "ythnilbkkihmpoaa", sum := "ad9d54bc84d502154b5765ab25bf226ef092ba789a8d815fd14d71b576dedcb9", func := "layout/layoutlaw51.ChangeRuns", spec := "changeRuns", unfollowed := true, recurses := true, apart := false, narrowed := true }
def ChangeRunsUptoSaid : Prop := changeRunsUptoRow.holds Try.pinned (OpenSpec.upto changeRunsSpec)

/-- 'layoutlaw51.ChangeKeeps', WHERE WHAT IT READS IS OF BULK AT MOST 1048576: true; the input reads as it did. -/
def changeKeepsUptoRow : OpenClaim := { program := "ythnilbkkihmpoaa", sum := "ad9d54bc84d502154b5765ab25bf226ef092ba789a8d815fd14d71b576dedcb9", func := "layout/layoutlaw51.ChangeKeeps", spec := "changeKeeps", unfollowed := true, recurses := true, apart := false, narrowed := true }
def ChangeKeepsUptoSaid : Prop := changeKeepsUptoRow.holds Try.pinned (OpenSpec.upto changeKeepsSpec)

end Rows
end Go.Proofs.Ythnilbkkihmpoaa
