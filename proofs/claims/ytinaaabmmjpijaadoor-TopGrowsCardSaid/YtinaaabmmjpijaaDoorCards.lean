/-
  DERIVED. GIVEN WITH THE SEED: THE CARDS: each row of YtinaaabmmjpijaaDoorRows.lean that lists a variable, with what it lists TIED to the program's text (the seventh form; the later family's looks); each row that meets fmt, with fmt's text TOLD by the authors' own Lean function (tested against real Go, not proved from fmt's source: count such statements apart). THE CARD IS WHAT COUNTS. Prove the row's statement (the work); the ties are given (YtinaaabmmjpijaaDoorTie.lean); close each card by the builder's one call (the guide's Derived/Test/ToyasCard.lean, 'card_holds'). Laid BY PROGRAM, IN A SANDBOX (cutbox-door.mjs). By AI agents, Wed Nov 11 2026. No macro, syntax, notation, axiom, sorry.
-/
import Derived.Test.YtinaaabmmjpijaaDoorRows
import GoSem.ClaimSeven
namespace Go.Proofs.YtinaaabmmjpijaaDoor
namespace Rows

/-- THE TIED CARD OF 'layouttop.TopGrows'. -/
def topGrowsCard : Claim7 := { stood := { row := topGrowsRow, standIns := [], harness := (true, "bcbe286a9cf3037c2af84cbfa0498a0bb568a10148ea87e4ca63dacec22f0206"), looks := false }, kinds := [], alts := [], laidByText := true, laidKinds := [.data, .data], laidTests := true, laidLooks := .later }
def TopGrowsCardSaid : Prop := Claim7.holds Tryd.pinned (.plain (OpenSpec.ofChange topGrowsSpec)) topGrowsCard

/-- THE SECOND FORM's CARD OF 'layouttop.TopGrows'. -/
def topGrowsUptoCard : Claim7 := { stood := { row := topGrowsUptoRow, standIns := [], harness := (true, "bcbe286a9cf3037c2af84cbfa0498a0bb568a10148ea87e4ca63dacec22f0206"), looks := false }, kinds := [], alts := [], laidByText := true, laidKinds := [.data, .data], laidTests := true, laidLooks := .later }
def TopGrowsUptoCardSaid : Prop := Claim7.holds Tryd.pinned (.plain (OpenSpec.upto topGrowsSpec)) topGrowsUptoCard
end Rows
end Go.Proofs.YtinaaabmmjpijaaDoor
