/-
  No cell of these rows narrows 'for every input' (looked for: loops, veiled, ifaces, maps, wideKeys, modest, calm, conditions, laid).
  DERIVED. THE GIVEN ROWS OF THIS SEAT. 6 by the template 'for every input the law returns true; each argument reads behind the call as it read before'; 0 by the template 'total and deterministic' (their statements: YtfmglokfgdjnjaaTotals.lean).
  GIVEN WITH THE SEED: the statements are not yours to turn. If you find one false, say at which input.
  Laid BY PROGRAM, IN A SANDBOX (cutbox-rows.mjs): the forced cells as the released guide's own fill.sh prints them over the translation b3b9b6a542e2f1de… (all of the seat's roots in one cut). By AI agents, Wed Nov 11 2026. No macro, syntax, notation, axiom, sorry.
-/
import Derived.Test.YtfmglokfgdjnjaaChecked
import GoSem.Claim
import GoSem.ClaimJoined
import GoSem.ClaimMapViews
import Derived.JoinedTies
import Derived.KernelRfl
namespace Go.Proofs.Ytfmglokfgdjnjaa
/- THE CELL 'sum', in the pinned program and in every row, IS THE sha256 OF THE DUMP (.gsa) THAT YtfmglokfgdjnjaaProg.lean LOADS. Nothing in Lean hashes anything: it is a label: what it is worth is what the hold of that sum in a sandbox is worth. -/
noncomputable def Try.pinned : Pinned := { name := "ytfmglokfgdjnjaa", sum := "b3b9b6a542e2f1dead7808caa83a51656d9788cc5f40c39d2bcaf2dac374d0b6", checked := Try.checked }
namespace Rows
def none {H : Type} : Left H := { results := [], args := [] }

/-- 'layoutlaw49.CandidatesAround': WHATEVER THE INPUT: true; the input reads as it did. -/
def candidatesAroundSpec : ChangeSpec := { name := "candidatesAround", fn := fun _ => fun
  | [d1, d2] => { results := [.lit (.bool true)], args := [d1, d2] }
  | _ => none }
def candidatesAroundRow : OpenClaim := { program := "ytfmglokfgdjnjaa", sum := "b3b9b6a542e2f1dead7808caa83a51656d9788cc5f40c39d2bcaf2dac374d0b6", func := "layout/layoutlaw49.CandidatesAround", spec := "candidatesAround", unfollowed := true, recurses := true, apart := false }
def CandidatesAroundSaid : Prop := candidatesAroundRow.holds Try.pinned (OpenSpec.ofChange candidatesAroundSpec)

/-- ITS FALSE NEIGHBOUR: 'it returns false'. Refute it at one input. -/
def candidatesAroundWrong : ChangeSpec := { name := "candidatesAround", fn := fun _ => fun
  | [d1, d2] => { results := [.lit (.bool false)], args := [d1, d2] }
  | _ => none }
def CandidatesAroundWrongFalsely : Prop := candidatesAroundRow.holds Try.pinned (OpenSpec.ofChange candidatesAroundWrong)

/-- 'layoutlaw49.CandidatesAlong': WHATEVER THE INPUT: true; the input reads as it did. -/
def candidatesAlongSpec : ChangeSpec := { name := "candidatesAlong", fn := fun _ => fun
  | [d1, d2] => { results := [.lit (.bool true)], args := [d1, d2] }
  | _ => none }
def candidatesAlongRow : OpenClaim := { program := "ytfmglokfgdjnjaa", sum := "b3b9b6a542e2f1dead7808caa83a51656d9788cc5f40c39d2bcaf2dac374d0b6", func := "layout/layoutlaw49.CandidatesAlong", spec := "candidatesAlong", unfollowed := true, recurses := true, apart := false }
def CandidatesAlongSaid : Prop := candidatesAlongRow.holds Try.pinned (OpenSpec.ofChange candidatesAlongSpec)

/-- ITS FALSE NEIGHBOUR: 'it returns false'. Refute it at one input. -/
def candidatesAlongWrong : ChangeSpec := { name := "candidatesAlong", fn := fun _ => fun
  | [d1, d2] => { results := [.lit (.bool false)], args := [d1, d2] }
  | _ => none }
def CandidatesAlongWrongFalsely : Prop := candidatesAlongRow.holds Try.pinned (OpenSpec.ofChange candidatesAlongWrong)

/-- 'layoutlaw49.CandidatesFree': WHATEVER THE INPUT: true; the input reads as it did. -/
def candidatesFreeSpec : ChangeSpec := { name := "candidatesFree", fn := fun _ => fun
  | [d1, d2] => { results := [.lit (.bool true)], args := [d1, d2] }
  | _ => none }
def candidatesFreeRow : OpenClaim := { program := "ytfmglokfgdjnjaa", sum := "b3b9b6a542e2f1dead7808caa83a51656d9788cc5f40c39d2bcaf2dac374d0b6", func := "layout/layoutlaw49.CandidatesFree", spec := "candidatesFree", unfollowed := true, recurses := true, apart := false }
def CandidatesFreeSaid : Prop := candidatesFreeRow.holds Try.pinned (OpenSpec.ofChange candidatesFreeSpec)

/-- ITS FALSE NEIGHBOUR: 'it returns false'. Refute it at one input. -/
def candidatesFreeWrong : ChangeSpec := { name := "candidatesFree", fn := fun _ => fun
  | [d1, d2] => { results := [.lit (.bool false)], args := [d1, d2] }
  | _ => none }
def CandidatesFreeWrongFalsely : Prop := candidatesFreeRow.holds Try.pinned (OpenSpec.ofChange candidatesFreeWrong)

/-- 'layoutlaw49.CandidatesApart': WHATEVER THE INPUT: true; the input reads as it did. -/
def candidatesApartSpec : ChangeSpec := { name := "candidatesApart", fn := fun _ => fun
  | [d1, d2] => { results := [.lit (.bool true)], args := [d1, d2] }
  | _ => none }
def candidatesApartRow : OpenClaim := { program := "ytfmglokfgdjnjaa", sum := "b3b9b6a542e2f1dead7808caa83a51656d9788cc5f40c39d2bcaf2dac374d0b6", func := "layout/layoutlaw49.CandidatesApart", spec := "candidatesApart", unfollowed := true, recurses := true, apart := false }
def CandidatesApartSaid : Prop := candidatesApartRow.holds Try.pinned (OpenSpec.ofChange candidatesApartSpec)

/-- ITS FALSE NEIGHBOUR: 'it returns false'. Refute it at one input. -/
def candidatesApartWrong : ChangeSpec := { name := "candidatesApart", fn := fun _ => fun
  | [d1, d2] => { results := [.lit (.bool false)], args := [d1, d2] }
  | _ => none }
def CandidatesApartWrongFalsely : Prop := candidatesApartRow.holds Try.pinned (OpenSpec.ofChange candidatesApartWrong)

/-- 'layoutlaw49.CandidatesBeside': WHATEVER THE INPUT: true; the input reads as it did. -/
def candidatesBesideSpec : ChangeSpec := { name := "candidatesBeside", fn := fun _ => fun
  | [d1, d2] => { results := [.lit (.bool true)], args := [d1, d2] }
  | _ => none }
def candidatesBesideRow : OpenClaim := { program := "ytfmglokfgdjnjaa", sum := "b3b9b6a542e2f1dead7808caa83a51656d9788cc5f40c39d2bcaf2dac374d0b6", func := "layout/layoutlaw49.CandidatesBeside", spec := "candidatesBeside", unfollowed := true, recurses := true, apart := false }
def CandidatesBesideSaid : Prop := candidatesBesideRow.holds Try.pinned (OpenSpec.ofChange candidatesBesideSpec)

/-- ITS FALSE NEIGHBOUR: 'it returns false'. Refute it at one input. -/
def candidatesBesideWrong : ChangeSpec := { name := "candidatesBeside", fn := fun _ => fun
  | [d1, d2] => { results := [.lit (.bool false)], args := [d1, d2] }
  | _ => none }
def CandidatesBesideWrongFalsely : Prop := candidatesBesideRow.holds Try.pinned (OpenSpec.ofChange candidatesBesideWrong)

/-- 'layoutlaw49.CandidatesFewer': WHATEVER THE INPUT: true; the input reads as it did. -/
def candidatesFewerSpec : ChangeSpec := { name := "candidatesFewer", fn := fun _ => fun
  | [d1, d2, d3] => { results := [.lit (.bool true)], args := [d1, d2, d3] }
  | _ => none }
def candidatesFewerRow : OpenClaim := { program := "ytfmglokfgdjnjaa", sum := "b3b9b6a542e2f1dead7808caa83a51656d9788cc5f40c39d2bcaf2dac374d0b6", func := "layout/layoutlaw49.CandidatesFewer", spec := "candidatesFewer", unfollowed := true, recurses := true, apart := false }
def CandidatesFewerSaid : Prop := candidatesFewerRow.holds Try.pinned (OpenSpec.ofChange candidatesFewerSpec)

/-- ITS FALSE NEIGHBOUR: 'it returns false'. Refute it at one input. -/
def candidatesFewerWrong : ChangeSpec := { name := "candidatesFewer", fn := fun _ => fun
  | [d1, d2, d3] => { results := [.lit (.bool false)], args := [d1, d2, d3] }
  | _ => none }
def CandidatesFewerWrongFalsely : Prop := candidatesFewerRow.holds Try.pinned (OpenSpec.ofChange candidatesFewerWrong)

/- THE SECOND FORM. 'bulk': how many values and letters a reading holds, each counted each time it is reached (what is shared counts as often as it is met; a slice's spare places count too). A statement '..UptoSaid' is the law's where the arguments, and the package variables that the reading takes, are together of bulk at most 1048576: NARROWER than '..Said'. Prove '..Said' where nothing that the law and all that it calls make is longer than what came in: it says more and counts as full. Else prove '..UptoSaid'. A law counts once. -/
mutual
def uptoBulk {H : Type} : DataW H → Nat
  | .lit (.string bytes) => bytes.length + 1
  | .lit _ => 1
  | .nil => 1
  | .ptr d => uptoBulk d + 1
  | .slice elems spare => uptoBulkAll elems + uptoBulkAll spare + 1
  | .agg parts => uptoBulkAll parts + 1
  | .iface _ d => uptoBulk d + 1
  | .map entries => uptoBulkEntries entries + 1
  | .held _ => 1
def uptoBulkAll {H : Type} : List (DataW H) → Nat
  | [] => 0
  | d :: r => uptoBulk d + uptoBulkAll r
def uptoBulkEntries {H : Type} : List (Lit × DataW H) → Nat
  | [] => 0
  | x :: r => uptoBulkEntry x + uptoBulkEntries r
def uptoBulkEntry {H : Type} : Lit × DataW H → Nat
  | (.string bytes, d) => bytes.length + uptoBulk d + 1
  | (_, d) => uptoBulk d + 1
 end
def uptoSmall : (H : Type) → List (DataW H) → Bool := fun _ ds => decide (uptoBulkAll ds ≤ 1048576)
def OpenSpec.upto (s : _root_.Go.ChangeSpec) : _root_.Go.OpenSpec := { _root_.Go.OpenSpec.ofChange s with cond := some uptoSmall }

/-- 'layoutlaw49.CandidatesAround', WHERE WHAT IT READS IS OF BULK AT MOST 1048576: true; the input reads as it did. -/
def candidatesAroundUptoRow : OpenClaim := { program := "ytfmglokfgdjnjaa", sum := "b3b9b6a542e2f1dead7808caa83a51656d9788cc5f40c39d2bcaf2dac374d0b6", func := "layout/layoutlaw49.CandidatesAround", spec := "candidatesAround", unfollowed := true, recurses := true, apart := false, narrowed := true }
def CandidatesAroundUptoSaid : Prop := candidatesAroundUptoRow.holds Try.pinned (OpenSpec.upto candidatesAroundSpec)

/-- 'layoutlaw49.CandidatesAlong', WHERE WHAT IT READS IS OF BULK AT MOST 1048576: true; the input reads as it did. -/
def candidatesAlongUptoRow : OpenClaim := { program := "ytfmglokfgdjnjaa", sum := "b3b9b6a542e2f1dead7808caa83a51656d9788cc5f40c39d2bcaf2dac374d0b6", func := "layout/layoutlaw49.CandidatesAlong", spec := "candidatesAlong", unfollowed := true, recurses := true, apart := false, narrowed := true }
def CandidatesAlongUptoSaid : Prop := candidatesAlongUptoRow.holds Try.pinned (OpenSpec.upto candidatesAlongSpec)

/-- 'layoutlaw49.CandidatesFree', WHERE WHAT IT READS IS OF BULK AT MOST 1048576: true; the input reads as it did. -/
def candidatesFreeUptoRow : OpenClaim := { program := "ytfmglokfgdjnjaa", sum := "b3b9b6a542e2f1dead7808caa83a51656d9788cc5f40c39d2bcaf2dac374d0b6", func := "layout/layoutlaw49.CandidatesFree", spec := "candidatesFree", unfollowed := true, recurses := true, apart := false, narrowed := true }
def CandidatesFreeUptoSaid : Prop := candidatesFreeUptoRow.holds Try.pinned (OpenSpec.upto candidatesFreeSpec)

/-- 'layoutlaw49.CandidatesApart', WHERE WHAT IT READS IS OF BULK AT MOST 1048576: true; the input reads as it did. -/
def candidatesApartUptoRow : OpenClaim := { program := "ytfmglokfgdjnjaa", sum := "b3b9b6a542e2f1dead7808caa83a51656d9788cc5f40c39d2bcaf2dac374d0b6", func := "layout/layoutlaw49.CandidatesApart", spec := "candidatesApart", unfollowed := true, recurses := true, apart := false, narrowed := true }
def CandidatesApartUptoSaid : Prop := candidatesApartUptoRow.holds Try.pinned (OpenSpec.upto candidatesApartSpec)

/-- 'layoutlaw49.CandidatesBeside', WHERE WHAT IT READS IS OF BULK AT MOST 1048576: true; the input reads as it did. -/
def candidatesBesideUptoRow : OpenClaim := { program := "ytfmglokfgdjnjaa", sum := "b3b9b6a542e2f1dead7808caa83a51656d9788cc5f40c39d2bcaf2dac374d0b6", func := "layout/layoutlaw49.CandidatesBeside", spec := "candidatesBeside", unfollowed := true, recurses := true, apart := false, narrowed := true }
def CandidatesBesideUptoSaid : Prop := candidatesBesideUptoRow.holds Try.pinned (OpenSpec.upto candidatesBesideSpec)

/-- 'layoutlaw49.CandidatesFewer', WHERE WHAT IT READS IS OF BULK AT MOST 1048576: true; the input reads as it did. -/
def candidatesFewerUptoRow : OpenClaim := { program := "ytfmglokfgdjnjaa", sum := "b3b9b6a542e2f1dead7808caa83a51656d9788cc5f40c39d2bcaf2dac374d0b6", func := "layout/layoutlaw49.CandidatesFewer", spec := "candidatesFewer", unfollowed := true, recurses := true, apart := false, narrowed := true }
def CandidatesFewerUptoSaid : Prop := candidatesFewerUptoRow.holds Try.pinned (OpenSpec.upto candidatesFewerSpec)

end Rows
end Go.Proofs.Ytfmglokfgdjnjaa
