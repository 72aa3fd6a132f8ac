/-
  DERIVED. GIVEN WITH THE SEED: THE CARDS: each row of YtflckjabjhmnfaaDoorRows.lean that lists a variable, with what it lists TIED to the program's text (the seventh form; the later family's looks); each row that meets fmt, with fmt's text TOLD by the authors' own Lean function (tested against real Go, not proved from fmt's source: count such statements apart). THE CARD IS WHAT COUNTS. Prove the row's statement (the work); the ties are given (YtflckjabjhmnfaaDoorTie.lean); close each card by the builder's one call (the guide's Derived/Test/ToyasCard.lean, 'card_holds'). Laid BY PROGRAM, IN A SANDBOX (cutbox-door.mjs). By AI agents, Wed Nov 11 2026. No macro, syntax, notation, axiom, sorry.
-/
import Derived.Test.YtflckjabjhmnfaaDoorRows
import GoSem.ClaimSeven
namespace Go.Proofs.YtflckjabjhmnfaaDoor
namespace Rows

/-- THE TIED CARD OF 'docketlaw21.PassNames'. -/
def passNamesCard : Claim7 := { stood := { row := passNamesRow, standIns := [], harness := (true, "45072e0ed4feb95522914cd91d2490030b24a7a8d05360f0e4f2bd844f42bd22"), looks := true }, kinds := [], alts := [], laidByText := true, laidKinds := [.data, .data, .data, .data, .sentinel, .sentinel, .pinned], laidTests := true, laidLooks := .later }
def PassNamesCardSaid : Prop := Claim7.holds Tryd.pinned (.plain (OpenSpec.ofChange passNamesSpec)) passNamesCard

/-- THE TIED CARD OF 'docketlaw21.PassBack'. -/
def passBackCard : Claim7 := { stood := { row := passBackRow, standIns := [], harness := (true, "45072e0ed4feb95522914cd91d2490030b24a7a8d05360f0e4f2bd844f42bd22"), looks := true }, kinds := [], alts := [], laidByText := true, laidKinds := [.data, .data, .data, .data, .sentinel, .sentinel, .pinned], laidTests := true, laidLooks := .later }
def PassBackCardSaid : Prop := Claim7.holds Tryd.pinned (.plain (OpenSpec.ofChange passBackSpec)) passBackCard

/-- THE TIED CARD OF 'docketlaw21.PassOnly'. -/
def passOnlyCard : Claim7 := { stood := { row := passOnlyRow, standIns := [], harness := (true, "45072e0ed4feb95522914cd91d2490030b24a7a8d05360f0e4f2bd844f42bd22"), looks := true }, kinds := [], alts := [], laidByText := true, laidKinds := [.data, .data, .data, .data, .sentinel, .sentinel, .pinned], laidTests := true, laidLooks := .later }
def PassOnlyCardSaid : Prop := Claim7.holds Tryd.pinned (.plain (OpenSpec.ofChange passOnlySpec)) passOnlyCard

/-- THE SECOND FORM's CARD OF 'docketlaw21.PassNames'. -/
def passNamesUptoCard : Claim7 := { stood := { row := passNamesUptoRow, standIns := [], harness := (true, "45072e0ed4feb95522914cd91d2490030b24a7a8d05360f0e4f2bd844f42bd22"), looks := true }, kinds := [], alts := [], laidByText := true, laidKinds := [.data, .data, .data, .data, .sentinel, .sentinel, .pinned], laidTests := true, laidLooks := .later }
def PassNamesUptoCardSaid : Prop := Claim7.holds Tryd.pinned (.plain (OpenSpec.upto passNamesSpec)) passNamesUptoCard

/-- THE SECOND FORM's CARD OF 'docketlaw21.PassBack'. -/
def passBackUptoCard : Claim7 := { stood := { row := passBackUptoRow, standIns := [], harness := (true, "45072e0ed4feb95522914cd91d2490030b24a7a8d05360f0e4f2bd844f42bd22"), looks := true }, kinds := [], alts := [], laidByText := true, laidKinds := [.data, .data, .data, .data, .sentinel, .sentinel, .pinned], laidTests := true, laidLooks := .later }
def PassBackUptoCardSaid : Prop := Claim7.holds Tryd.pinned (.plain (OpenSpec.upto passBackSpec)) passBackUptoCard

/-- THE SECOND FORM's CARD OF 'docketlaw21.PassOnly'. -/
def passOnlyUptoCard : Claim7 := { stood := { row := passOnlyUptoRow, standIns := [], harness := (true, "45072e0ed4feb95522914cd91d2490030b24a7a8d05360f0e4f2bd844f42bd22"), looks := true }, kinds := [], alts := [], laidByText := true, laidKinds := [.data, .data, .data, .data, .sentinel, .sentinel, .pinned], laidTests := true, laidLooks := .later }
def PassOnlyUptoCardSaid : Prop := Claim7.holds Tryd.pinned (.plain (OpenSpec.upto passOnlySpec)) passOnlyUptoCard
end Rows
end Go.Proofs.YtflckjabjhmnfaaDoor
