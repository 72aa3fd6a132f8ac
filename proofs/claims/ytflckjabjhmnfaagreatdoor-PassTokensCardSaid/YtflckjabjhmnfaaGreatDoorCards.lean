/-
  DERIVED. GIVEN WITH THE SEED: THE CARDS: each row of YtflckjabjhmnfaaGreatDoorRows.lean that lists a variable, with what it lists TIED to the program's text (the seventh form; the later family's looks); each row that meets fmt, with fmt's text TOLD by the authors' own Lean function (tested against real Go, not proved from fmt's source: count such statements apart). THE CARD IS WHAT COUNTS. Prove the row's statement (the work); the ties are given (YtflckjabjhmnfaaGreatDoorTie.lean); close each card by the builder's one call (the guide's Derived/Test/ToyasCard.lean, 'card_holds'). Laid BY PROGRAM, IN A SANDBOX (cutbox-door.mjs). By AI agents, Wed Nov 11 2026. No macro, syntax, notation, axiom, sorry.
-/
import Derived.Test.YtflckjabjhmnfaaGreatDoorRows
import GoSem.ClaimSeven
namespace Go.Proofs.YtflckjabjhmnfaaGreatDoor
namespace Rows

/-- THE TIED CARD OF 'docketlaw21.PassTokens'. -/
def passTokensCard : Claim7 := { stood := { row := passTokensRow, standIns := [], harness := (true, "608359f87d255d054e03cc371ccd331063719ca5f1a93e232ce62e5035d6508d"), looks := true }, kinds := [], alts := [], laidByText := true, laidKinds := [.data, .data, .data, .data, .sentinel, .sentinel, .pinned], laidTests := true, laidLooks := .later }
def PassTokensCardSaid : Prop := Claim7.holds Tryz.pinned (.plain (OpenSpec.ofChange passTokensSpec)) passTokensCard

/-- THE SECOND FORM's CARD OF 'docketlaw21.PassTokens'. -/
def passTokensUptoCard : Claim7 := { stood := { row := passTokensUptoRow, standIns := [], harness := (true, "608359f87d255d054e03cc371ccd331063719ca5f1a93e232ce62e5035d6508d"), looks := true }, kinds := [], alts := [], laidByText := true, laidKinds := [.data, .data, .data, .data, .sentinel, .sentinel, .pinned], laidTests := true, laidLooks := .later }
def PassTokensUptoCardSaid : Prop := Claim7.holds Tryz.pinned (.plain (OpenSpec.upto passTokensSpec)) passTokensUptoCard
end Rows
end Go.Proofs.YtflckjabjhmnfaaGreatDoor
