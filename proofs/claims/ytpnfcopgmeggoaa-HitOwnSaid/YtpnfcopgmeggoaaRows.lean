/-
  No cell of these rows narrows 'for every input' (looked for: loops, veiled, ifaces, maps, wideKeys, modest, calm, conditions, laid).
  DERIVED. THE GIVEN ROWS OF THIS SEAT. 5 by the template 'for every input the law returns true; each argument reads behind the call as it read before'; 0 by the template 'total and deterministic' (their statements: YtpnfcopgmeggoaaTotals.lean).
  GIVEN WITH THE SEED: the statements are not yours to turn. If you find one false, say at which input.
  Laid BY PROGRAM, IN A SANDBOX (cutbox-rows.mjs): the forced cells as the released guide's own fill.sh prints them over the translation bafac0415ce86b99… (all of the seat's roots in one cut). By AI agents, Wed Nov 11 2026. No macro, syntax, notation, axiom, sorry.
-/
import Derived.Test.YtpnfcopgmeggoaaChecked
import GoSem.Claim
import GoSem.ClaimJoined
import GoSem.ClaimMapViews
import Derived.JoinedTies
import Derived.KernelRfl
namespace Go.Proofs.Ytpnfcopgmeggoaa
/- THE CELL 'sum', in the pinned program and in every row, IS THE sha256 OF THE DUMP (.gsa) THAT YtpnfcopgmeggoaaProg.lean LOADS. Nothing in Lean hashes anything: it is a label: what it is worth is what the hold of that sum in a sandbox is worth. -/
noncomputable def Try.pinned : Pinned := { name := "ytpnfcopgmeggoaa", sum := "bafac0415ce86b99c0f9a6eb596f8d13ad297f4f531de0aba6ab982921ca5f2c", checked := Try.checked }
namespace Rows
def none {H : Type} : Left H := { results := [], args := [] }

/-- 'layoutlaw54.HitNear': WHATEVER THE INPUT: true; the input reads as it did. -/
def hitNearSpec : ChangeSpec := { name := "hitNear", fn := fun _ => fun
  | [d1, d2, d3] => { results := [.lit (.bool true)], args := [d1, d2, d3] }
  | _ => none }
def hitNearRow : OpenClaim := { program := "ytpnfcopgmeggoaa", sum := "bafac0415ce86b99c0f9a6eb596f8d13ad297f4f531de0aba6ab982921ca5f2c", func := "layout/layoutlaw54.HitNear", spec := "hitNear", unfollowed := true, recurses := true, apart := false }
def HitNearSaid : Prop := hitNearRow.holds Try.pinned (OpenSpec.ofChange hitNearSpec)

/-- ITS FALSE NEIGHBOUR: 'it returns false'. Refute it at one input. -/
def hitNearWrong : ChangeSpec := { name := "hitNear", fn := fun _ => fun
  | [d1, d2, d3] => { results := [.lit (.bool false)], args := [d1, d2, d3] }
  | _ => none }
def HitNearWrongFalsely : Prop := hitNearRow.holds Try.pinned (OpenSpec.ofChange hitNearWrong)

/-- 'layoutlaw54.HitItems': WHATEVER THE INPUT: true; the input reads as it did. -/
def hitItemsSpec : ChangeSpec := { name := "hitItems", fn := fun _ => fun
  | [d1, d2, d3] => { results := [.lit (.bool true)], args := [d1, d2, d3] }
  | _ => none }
def hitItemsRow : OpenClaim := { program := "ytpnfcopgmeggoaa", sum := "bafac0415ce86b99c0f9a6eb596f8d13ad297f4f531de0aba6ab982921ca5f2c", func := "layout/layoutlaw54.HitItems", spec := "hitItems", unfollowed := true, recurses := true, apart := false }
def HitItemsSaid : Prop := hitItemsRow.holds Try.pinned (OpenSpec.ofChange hitItemsSpec)

/-- ITS FALSE NEIGHBOUR: 'it returns false'. Refute it at one input. -/
def hitItemsWrong : ChangeSpec := { name := "hitItems", fn := fun _ => fun
  | [d1, d2, d3] => { results := [.lit (.bool false)], args := [d1, d2, d3] }
  | _ => none }
def HitItemsWrongFalsely : Prop := hitItemsRow.holds Try.pinned (OpenSpec.ofChange hitItemsWrong)

/-- 'layoutlaw54.HitWithin': WHATEVER THE INPUT: true; the input reads as it did. -/
def hitWithinSpec : ChangeSpec := { name := "hitWithin", fn := fun _ => fun
  | [d1, d2] => { results := [.lit (.bool true)], args := [d1, d2] }
  | _ => none }
def hitWithinRow : OpenClaim := { program := "ytpnfcopgmeggoaa", sum := "bafac0415ce86b99c0f9a6eb596f8d13ad297f4f531de0aba6ab982921ca5f2c", func := "layout/layoutlaw54.HitWithin", spec := "hitWithin", unfollowed := true, recurses := true, apart := false }
def HitWithinSaid : Prop := hitWithinRow.holds Try.pinned (OpenSpec.ofChange hitWithinSpec)

/-- ITS FALSE NEIGHBOUR: 'it returns false'. Refute it at one input. -/
def hitWithinWrong : ChangeSpec := { name := "hitWithin", fn := fun _ => fun
  | [d1, d2] => { results := [.lit (.bool false)], args := [d1, d2] }
  | _ => none }
def HitWithinWrongFalsely : Prop := hitWithinRow.holds Try.pinned (OpenSpec.ofChange hitWithinWrong)

/-- 'layoutlaw54.HitGrows': WHATEVER THE INPUT: true; the input reads as it did. -/
def hitGrowsSpec : ChangeSpec := { name := "hitGrows", fn := fun _ => fun
  | [d1, d2, d3] => { results := [.lit (.bool true)], args := [d1, d2, d3] }
  | _ => none }
def hitGrowsRow : OpenClaim := { program := "ytpnfcopgmeggoaa", sum := "bafac0415ce86b99c0f9a6eb596f8d13ad297f4f531de0aba6ab982921ca5f2c", func := "layout/layoutlaw54.HitGrows", spec := "hitGrows", unfollowed := true, recurses := true, apart := false }
def HitGrowsSaid : Prop := hitGrowsRow.holds Try.pinned (OpenSpec.ofChange hitGrowsSpec)

/-- ITS FALSE NEIGHBOUR: 'it returns false'. Refute it at one input. -/
def hitGrowsWrong : ChangeSpec := { name := "hitGrows", fn := fun _ => fun
  | [d1, d2, d3] => { results := [.lit (.bool false)], args := [d1, d2, d3] }
  | _ => none }
def HitGrowsWrongFalsely : Prop := hitGrowsRow.holds Try.pinned (OpenSpec.ofChange hitGrowsWrong)

/-- 'layoutlaw54.HitOwn': WHATEVER THE INPUT: true; the input reads as it did. -/
def hitOwnSpec : ChangeSpec := { name := "hitOwn", fn := fun _ => fun
  | [d1, d2, d3, d4] => { results := [.lit (.bool true)], args := [d1, d2, d3, d4] }
  | _ => none }
def hitOwnRow : OpenClaim := { program := "ytpnfcopgmeggoaa", sum := "bafac0415ce86b99c0f9a6eb596f8d13ad297f4f531de0aba6ab982921ca5f2c", func := "layout/layoutlaw54.HitOwn", spec := "hitOwn", unfollowed := true, recurses := true, apart := false }
def HitOwnSaid : Prop := hitOwnRow.holds Try.pinned (OpenSpec.ofChange hitOwnSpec)

/-- ITS FALSE NEIGHBOUR: 'it returns false'. Refute it at one input. -/
def hitOwnWrong : ChangeSpec := { name := "hitOwn", fn := fun _ => fun
  | [d1, d2, d3, d4] => { results := [.lit (.bool false)], args := [d1, d2, d3, d4] }
  | _ => none }
def HitOwnWrongFalsely : Prop := hitOwnRow.holds Try.pinned (OpenSpec.ofChange hitOwnWrong)

/- THE SECOND FORM. 'bulk': how many values and letters a reading holds, each counted each time it is reached (what is shared counts as often as it is met; a slice's spare places count too). A statement '..UptoSaid' is the law's where the arguments, and the package variables that the reading takes, are together of bulk at most 1048576: NARROWER than '..Said'. Prove '..Said' where nothing that the law and all that it calls make is longer than what came in: it says more and counts as full. Else prove '..UptoSaid'. A law counts once. -/
mutual
def uptoBulk {H : Type} : DataW H → Nat
  | .lit (.string bytes) => bytes.length + 1
  | .lit _ => 1
  | .nil => 1
  | .ptr d => uptoBulk d + 1
  | .slice elems spare => uptoBulkAll elems + uptoBulkAll spare + 1
  | .agg parts => uptoBulkAll parts + 1
  | .iface _ d => uptoBulk d + 1
  | .map entries => uptoBulkEntries entries + 1
  | .held _ => 1
def uptoBulkAll {H : Type} : List (DataW H) → Nat
  | [] => 0
  | d :: r => uptoBulk d + uptoBulkAll r
def uptoBulkEntries {H : Type} : List (Lit × DataW H) → Nat
  | [] => 0
  | x :: r => uptoBulkEntry x + uptoBulkEntries r
def uptoBulkEntry {H : Type} : Lit × DataW H → Nat
  | (.string bytes, d) => bytes.length + uptoBulk d + 1
  | (_, d) => uptoBulk d + 1
 end
def uptoSmall : (H : Type) → List (DataW H) → Bool := fun _ ds => decide (uptoBulkAll ds ≤ 1048576)
def OpenSpec.upto (s : _root_.Go.ChangeSpec) : _root_.Go.OpenSpec := { _root_.Go.OpenSpec.ofChange s with cond := some uptoSmall }

/-- 'layoutlaw54.HitNear', WHERE WHAT IT READS IS OF BULK AT MOST 1048576: true; the input reads as it did. -/
def hitNearUptoRow : OpenClaim := { program := "ytpnfcopgmeggoaa", sum := "bafac0415ce86b99c0f9a6eb596f8d13ad297f4f531de0aba6ab982921ca5f2c", func := "layout/layoutlaw54.HitNear", spec := "hitNear", unfollowed := true, recurses := true, apart := false, narrowed := true }
def HitNearUptoSaid : Prop := hitNearUptoRow.holds Try.pinned (OpenSpec.upto hitNearSpec)

/-- 'layoutlaw54.HitItems', WHERE WHAT IT READS IS OF BULK AT MOST 1048576: true; the input reads as it did. -/
def hitItemsUptoRow : OpenClaim := { program := "ytpnfcopgmeggoaa", sum := "bafac0415ce86b99c0f9a6eb596f8d13ad297f4f531de0aba6ab982921ca5f2c", func := "layout/layoutlaw54.HitItems", spec := "hitItems", unfollowed := true, recurses := true, apart := false, narrowed := true }
def HitItemsUptoSaid : Prop := hitItemsUptoRow.holds Try.pinned (OpenSpec.upto hitItemsSpec)

/-- 'layoutlaw54.HitWithin', WHERE WHAT IT READS IS OF BULK AT MOST 1048576: true; the input reads as it did. -/
def hitWithinUptoRow : OpenClaim := { program := "ytpnfcopgmeggoaa", sum := "bafac0415ce86b99c0f9a6eb596f8d13ad297f4f531de0aba6ab982921ca5f2c", func := "layout/layoutlaw54.HitWithin", spec := "hitWithin", unfollowed := true, recurses := true, apart := false, narrowed := true }
def HitWithinUptoSaid : Prop := hitWithinUptoRow.holds Try.pinned (OpenSpec.upto hitWithinSpec)

/-- 'layoutlaw54.HitGrows', WHERE WHAT IT READS IS OF BULK AT MOST 1048576: true; the input reads as it did. -/
def hitGrowsUptoRow : OpenClaim := { program := "ytpnfcopgmeggoaa", sum := "bafac0415ce86b99c0f9a6eb596f8d13ad297f4f531de0aba6ab982921ca5f2c", func := "layout/layoutlaw54.HitGrows", spec := "hitGrows", unfollowed := true, recurses := true, apart := false, narrowed := true }
def HitGrowsUptoSaid : Prop := hitGrowsUptoRow.holds Try.pinned (OpenSpec.upto hitGrowsSpec)

/-- 'layoutlaw54.HitOwn', WHERE WHAT IT READS IS OF BULK AT MOST 1048576: true; the input reads as it did. -/
def hitOwnUptoRow : OpenClaim := { program := "ytpnfcopgmeggoaa", sum := "bafac0415ce86b99c0f9a6eb596f8d13ad297f4f531de0aba6ab982921ca5f2c", func := "layout/layoutlaw54.HitOwn", spec := "hitOwn", unfollowed := true, recurses := true, apart := false, narrowed := true }
def HitOwnUptoSaid : Prop := hitOwnUptoRow.holds Try.pinned (OpenSpec.upto hitOwnSpec)

end Rows
end Go.Proofs.Ytpnfcopgmeggoaa
