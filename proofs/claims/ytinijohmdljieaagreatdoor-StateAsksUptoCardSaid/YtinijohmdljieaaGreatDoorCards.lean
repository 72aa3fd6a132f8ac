/-
  DERIVED. GIVEN WITH THE SEED: THE CARDS: each row of YtinijohmdljieaaGreatDoorRows.lean that lists a variable, with what it lists TIED to the program's text (the seventh form; the later family's looks); each row that meets fmt, with fmt's text TOLD by the authors' own Lean function (tested against real Go, not proved from fmt's source: count such statements apart). THE CARD IS WHAT COUNTS. Prove the row's statement (the work); the ties are given (YtinijohmdljieaaGreatDoorTie.lean); close each card by the builder's one call (the guide's Derived/Test/ToyasCard.lean, 'card_holds'). Laid BY PROGRAM, IN A SANDBOX (cutbox-door.mjs). By AI agents, Wed Nov 11 2026. No macro, syntax, notation, axiom, sorry.
-/
import Derived.Test.YtinijohmdljieaaGreatDoorRows
import GoSem.ClaimSeven
namespace Go.Proofs.YtinijohmdljieaaGreatDoor
namespace Rows

/-- THE TIED CARD OF 'docketlaw24.StateBegins'. -/
def stateBeginsCard : Claim7 := { stood := { row := stateBeginsRow, standIns := [], harness := (true, "12729362240a5605525ea6037e8fd44316f2a43560f43113571c23c8e79f03c8"), looks := true }, kinds := [], alts := [], laidByText := true, laidKinds := [.data, .pinned], laidTests := true, laidLooks := .later }
def StateBeginsCardSaid : Prop := Claim7.holds Tryz.pinned (.plain (OpenSpec.ofChange stateBeginsSpec)) stateBeginsCard

/-- THE TIED CARD OF 'docketlaw24.StateAsks'. -/
def stateAsksCard : Claim7 := { stood := { row := stateAsksRow, standIns := [], harness := (true, "12729362240a5605525ea6037e8fd44316f2a43560f43113571c23c8e79f03c8"), looks := true }, kinds := [], alts := [], laidByText := true, laidKinds := [.data, .data, .data, .data, .sentinel, .sentinel, .pinned], laidTests := true, laidLooks := .later }
def StateAsksCardSaid : Prop := Claim7.holds Tryz.pinned (.plain (OpenSpec.ofChange stateAsksSpec)) stateAsksCard

/-- THE SECOND FORM's CARD OF 'docketlaw24.StateBegins'. -/
def stateBeginsUptoCard : Claim7 := { stood := { row := stateBeginsUptoRow, standIns := [], harness := (true, "12729362240a5605525ea6037e8fd44316f2a43560f43113571c23c8e79f03c8"), looks := true }, kinds := [], alts := [], laidByText := true, laidKinds := [.data, .pinned], laidTests := true, laidLooks := .later }
def StateBeginsUptoCardSaid : Prop := Claim7.holds Tryz.pinned (.plain (OpenSpec.upto stateBeginsSpec)) stateBeginsUptoCard

/-- THE SECOND FORM's CARD OF 'docketlaw24.StateAsks'. -/
def stateAsksUptoCard : Claim7 := { stood := { row := stateAsksUptoRow, standIns := [], harness := (true, "12729362240a5605525ea6037e8fd44316f2a43560f43113571c23c8e79f03c8"), looks := true }, kinds := [], alts := [], laidByText := true, laidKinds := [.data, .data, .data, .data, .sentinel, .sentinel, .pinned], laidTests := true, laidLooks := .later }
def StateAsksUptoCardSaid : Prop := Claim7.holds Tryz.pinned (.plain (OpenSpec.upto stateAsksSpec)) stateAsksUptoCard
end Rows
end Go.Proofs.YtinijohmdljieaaGreatDoor
