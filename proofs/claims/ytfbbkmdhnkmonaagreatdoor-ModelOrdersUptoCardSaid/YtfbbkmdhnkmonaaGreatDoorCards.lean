/-
  DERIVED. GIVEN WITH THE SEED: THE CARDS: each row of YtfbbkmdhnkmonaaGreatDoorRows.lean that lists a variable, with what it lists TIED to the program's text (the seventh form; the later family's looks); each row that meets fmt, with fmt's text TOLD by the authors' own Lean function (tested against real Go, not proved from fmt's source: count such statements apart). THE CARD IS WHAT COUNTS. Prove the row's statement (the work); the ties are given (YtfbbkmdhnkmonaaGreatDoorTie.lean); close each card by the builder's one call (the guide's Derived/Test/ToyasCard.lean, 'card_holds'). Laid BY PROGRAM, IN A SANDBOX (cutbox-door.mjs). By AI agents, Wed Nov 11 2026. No macro, syntax, notation, axiom, sorry.
-/
import Derived.Test.YtfbbkmdhnkmonaaGreatDoorRows
import GoSem.ClaimSeven
namespace Go.Proofs.YtfbbkmdhnkmonaaGreatDoor
namespace Rows

/-- THE TIED CARD OF 'docketlaw18.ModelNames'. -/
def modelNamesCard : Claim7 := { stood := { row := modelNamesRow, standIns := [], harness := (true, "3ed708fb5a6f179ee383200ed7dd98ca6758fbad09e6675a576411b41c7592a9"), looks := true }, kinds := [], alts := [], laidByText := true, laidKinds := [.data, .data, .data, .data, .sentinel, .sentinel, .pinned], laidTests := true, laidLooks := .later }
def ModelNamesCardSaid : Prop := Claim7.holds Tryz.pinned (.plain (OpenSpec.ofChange modelNamesSpec)) modelNamesCard

/-- THE TIED CARD OF 'docketlaw18.ModelOrders'. -/
def modelOrdersCard : Claim7 := { stood := { row := modelOrdersRow, standIns := [], harness := (true, "3ed708fb5a6f179ee383200ed7dd98ca6758fbad09e6675a576411b41c7592a9"), looks := true }, kinds := [], alts := [], laidByText := true, laidKinds := [.data, .data, .data, .data, .sentinel, .sentinel, .pinned], laidTests := true, laidLooks := .later }
def ModelOrdersCardSaid : Prop := Claim7.holds Tryz.pinned (.plain (OpenSpec.ofChange modelOrdersSpec)) modelOrdersCard

/-- THE TIED CARD OF 'docketlaw18.ModelStands'. -/
def modelStandsCard : Claim7 := { stood := { row := modelStandsRow, standIns := [], harness := (true, "3ed708fb5a6f179ee383200ed7dd98ca6758fbad09e6675a576411b41c7592a9"), looks := true }, kinds := [], alts := [], laidByText := true, laidKinds := [.data, .data, .data, .data, .sentinel, .sentinel, .pinned], laidTests := true, laidLooks := .later }
def ModelStandsCardSaid : Prop := Claim7.holds Tryz.pinned (.plain (OpenSpec.ofChange modelStandsSpec)) modelStandsCard

/-- THE SECOND FORM's CARD OF 'docketlaw18.ModelNames'. -/
def modelNamesUptoCard : Claim7 := { stood := { row := modelNamesUptoRow, standIns := [], harness := (true, "3ed708fb5a6f179ee383200ed7dd98ca6758fbad09e6675a576411b41c7592a9"), looks := true }, kinds := [], alts := [], laidByText := true, laidKinds := [.data, .data, .data, .data, .sentinel, .sentinel, .pinned], laidTests := true, laidLooks := .later }
def ModelNamesUptoCardSaid : Prop := Claim7.holds Tryz.pinned (.plain (OpenSpec.upto modelNamesSpec)) modelNamesUptoCard

/-- THE SECOND FORM's CARD OF 'docketlaw18.ModelOrders'. -/
def modelOrdersUptoCard : Claim7 := { stood := { row := modelOrdersUptoRow, standIns := [], harness := (true, "3ed708fb5a6f179ee383200ed7dd98ca6758fbad09e6675a576411b41c7592a9"), looks := true }, kinds := [], alts := [], laidByText := true, laidKinds := [.data, .data, .data, .data, .sentinel, .sentinel, .pinned], laidTests := true, laidLooks := .later }
def ModelOrdersUptoCardSaid : Prop := Claim7.holds Tryz.pinned (.plain (OpenSpec.upto modelOrdersSpec)) modelOrdersUptoCard

/-- THE SECOND FORM's CARD OF 'docketlaw18.ModelStands'. -/
def modelStandsUptoCard : Claim7 := { stood := { row := modelStandsUptoRow, standIns := [], harness := (true, "3ed708fb5a6f179ee383200ed7dd98ca6758fbad09e6675a576411b41c7592a9"), looks := true }, kinds := [], alts := [], laidByText := true, laidKinds := [.data, .data, .data, .data, .sentinel, .sentinel, .pinned], laidTests := true, laidLooks := .later }
def ModelStandsUptoCardSaid : Prop := Claim7.holds Tryz.pinned (.plain (OpenSpec.upto modelStandsSpec)) modelStandsUptoCard
end Rows
end Go.Proofs.YtfbbkmdhnkmonaaGreatDoor
