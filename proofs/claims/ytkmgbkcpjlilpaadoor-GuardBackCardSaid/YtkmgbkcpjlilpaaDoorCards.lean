/-
  DERIVED. GIVEN WITH THE SEED: THE CARDS: each row of YtkmgbkcpjlilpaaDoorRows.lean that lists a variable, with what it lists TIED to the program's text (the seventh form; the later family's looks); each row that meets fmt, with fmt's text TOLD by the authors' own Lean function (tested against real Go, not proved from fmt's source: count such statements apart). THE CARD IS WHAT COUNTS. Prove the row's statement (the work); the ties are given (YtkmgbkcpjlilpaaDoorTie.lean); close each card by the builder's one call (the guide's Derived/Test/ToyasCard.lean, 'card_holds'). Laid BY PROGRAM, IN A SANDBOX (cutbox-door.mjs). By AI agents, Wed Nov 11 2026. No macro, syntax, notation, axiom, sorry.
-/
import Derived.Test.YtkmgbkcpjlilpaaDoorRows
import GoSem.ClaimSeven
namespace Go.Proofs.YtkmgbkcpjlilpaaDoor
namespace Rows

/-- THE TIED CARD OF 'docketlaw17.GuardReads'. -/
def guardReadsCard : Claim7 := { stood := { row := guardReadsRow, standIns := [], harness := (true, "ec00a8ed4dd827eed872dbe47e302e91fee0be3d8ba0486163ab215ddd6232c2"), looks := true }, kinds := [], alts := [], laidByText := true, laidKinds := [.data, .data, .data, .data, .sentinel, .sentinel, .pinned], laidTests := true, laidLooks := .later }
def GuardReadsCardSaid : Prop := Claim7.holds Tryd.pinned (.plain (OpenSpec.ofChange guardReadsSpec)) guardReadsCard

/-- THE TIED CARD OF 'docketlaw17.GuardBack'. -/
def guardBackCard : Claim7 := { stood := { row := guardBackRow, standIns := [], harness := (true, "ec00a8ed4dd827eed872dbe47e302e91fee0be3d8ba0486163ab215ddd6232c2"), looks := true }, kinds := [], alts := [], laidByText := true, laidKinds := [.data, .data, .data, .data, .sentinel, .sentinel, .pinned], laidTests := true, laidLooks := .later }
def GuardBackCardSaid : Prop := Claim7.holds Tryd.pinned (.plain (OpenSpec.ofChange guardBackSpec)) guardBackCard

/-- THE SECOND FORM's CARD OF 'docketlaw17.GuardReads'. -/
def guardReadsUptoCard : Claim7 := { stood := { row := guardReadsUptoRow, standIns := [], harness := (true, "ec00a8ed4dd827eed872dbe47e302e91fee0be3d8ba0486163ab215ddd6232c2"), looks := true }, kinds := [], alts := [], laidByText := true, laidKinds := [.data, .data, .data, .data, .sentinel, .sentinel, .pinned], laidTests := true, laidLooks := .later }
def GuardReadsUptoCardSaid : Prop := Claim7.holds Tryd.pinned (.plain (OpenSpec.upto guardReadsSpec)) guardReadsUptoCard

/-- THE SECOND FORM's CARD OF 'docketlaw17.GuardBack'. -/
def guardBackUptoCard : Claim7 := { stood := { row := guardBackUptoRow, standIns := [], harness := (true, "ec00a8ed4dd827eed872dbe47e302e91fee0be3d8ba0486163ab215ddd6232c2"), looks := true }, kinds := [], alts := [], laidByText := true, laidKinds := [.data, .data, .data, .data, .sentinel, .sentinel, .pinned], laidTests := true, laidLooks := .later }
def GuardBackUptoCardSaid : Prop := Claim7.holds Tryd.pinned (.plain (OpenSpec.upto guardBackSpec)) guardBackUptoCard
end Rows
end Go.Proofs.YtkmgbkcpjlilpaaDoor
