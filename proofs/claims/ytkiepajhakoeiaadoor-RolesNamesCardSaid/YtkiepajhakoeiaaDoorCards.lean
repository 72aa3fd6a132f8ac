/-
  DERIVED. GIVEN WITH THE SEED: THE CARDS: each row of YtkiepajhakoeiaaDoorRows.lean that lists a variable, with what it lists TIED to the program's text (the seventh form; the later family's looks); each row that meets fmt, with fmt's text TOLD by the authors' own Lean function (tested against real Go, not proved from fmt's source: count such statements apart). THE CARD IS WHAT COUNTS. Prove the row's statement (the work); the ties are given (YtkiepajhakoeiaaDoorTie.lean); close each card by the builder's one call (the guide's Derived/Test/ToyasCard.lean, 'card_holds'). Laid BY PROGRAM, IN A SANDBOX (cutbox-door.mjs). By AI agents, Wed Nov 11 2026. No macro, syntax, notation, axiom, sorry.
-/
import Derived.Test.YtkiepajhakoeiaaDoorRows
import GoSem.ClaimSeven
namespace Go.Proofs.YtkiepajhakoeiaaDoor
namespace Rows

/-- THE TIED CARD OF 'docketlaw20.RolesApart'. -/
def rolesApartCard : Claim7 := { stood := { row := rolesApartRow, standIns := [], harness := (true, "47fcec193f8fdfb97ce69dd99edd9c8e4b8cd1c49dab60c162facae6fee98ac7"), looks := false }, kinds := [], alts := [], laidByText := true, laidKinds := [.data, .pinned], laidTests := true, laidLooks := .later }
def RolesApartCardSaid : Prop := Claim7.holds Tryd.pinned (.plain (OpenSpec.ofChange rolesApartSpec)) rolesApartCard

/-- THE TIED CARD OF 'docketlaw20.RolesClosed'. -/
def rolesClosedCard : Claim7 := { stood := { row := rolesClosedRow, standIns := [], harness := (true, "47fcec193f8fdfb97ce69dd99edd9c8e4b8cd1c49dab60c162facae6fee98ac7"), looks := false }, kinds := [], alts := [], laidByText := true, laidKinds := [.data, .pinned], laidTests := true, laidLooks := .later }
def RolesClosedCardSaid : Prop := Claim7.holds Tryd.pinned (.plain (OpenSpec.ofChange rolesClosedSpec)) rolesClosedCard

/-- THE TIED CARD OF 'docketlaw20.RolesHold'. -/
def rolesHoldCard : Claim7 := { stood := { row := rolesHoldRow, standIns := [], harness := (true, "47fcec193f8fdfb97ce69dd99edd9c8e4b8cd1c49dab60c162facae6fee98ac7"), looks := false }, kinds := [], alts := [], laidByText := true, laidKinds := [.data, .pinned], laidTests := true, laidLooks := .later }
def RolesHoldCardSaid : Prop := Claim7.holds Tryd.pinned (.plain (OpenSpec.ofChange rolesHoldSpec)) rolesHoldCard

/-- THE TIED CARD OF 'docketlaw20.RolesGrow'. -/
def rolesGrowCard : Claim7 := { stood := { row := rolesGrowRow, standIns := [], harness := (true, "47fcec193f8fdfb97ce69dd99edd9c8e4b8cd1c49dab60c162facae6fee98ac7"), looks := false }, kinds := [], alts := [], laidByText := true, laidKinds := [.data, .pinned], laidTests := true, laidLooks := .later }
def RolesGrowCardSaid : Prop := Claim7.holds Tryd.pinned (.plain (OpenSpec.ofChange rolesGrowSpec)) rolesGrowCard

/-- THE TIED CARD OF 'docketlaw20.RolesTurned'. -/
def rolesTurnedCard : Claim7 := { stood := { row := rolesTurnedRow, standIns := [], harness := (true, "47fcec193f8fdfb97ce69dd99edd9c8e4b8cd1c49dab60c162facae6fee98ac7"), looks := false }, kinds := [], alts := [], laidByText := true, laidKinds := [.data, .pinned], laidTests := true, laidLooks := .later }
def RolesTurnedCardSaid : Prop := Claim7.holds Tryd.pinned (.plain (OpenSpec.ofChange rolesTurnedSpec)) rolesTurnedCard

/-- THE TIED CARD OF 'docketlaw20.RolesNames'. -/
def rolesNamesCard : Claim7 := { stood := { row := rolesNamesRow, standIns := [], harness := (true, "47fcec193f8fdfb97ce69dd99edd9c8e4b8cd1c49dab60c162facae6fee98ac7"), looks := false }, kinds := [], alts := [], laidByText := true, laidKinds := [.data, .pinned], laidTests := true, laidLooks := .later }
def RolesNamesCardSaid : Prop := Claim7.holds Tryd.pinned (.plain (OpenSpec.ofChange rolesNamesSpec)) rolesNamesCard

/-- THE SECOND FORM's CARD OF 'docketlaw20.RolesApart'. -/
def rolesApartUptoCard : Claim7 := { stood := { row := rolesApartUptoRow, standIns := [], harness := (true, "47fcec193f8fdfb97ce69dd99edd9c8e4b8cd1c49dab60c162facae6fee98ac7"), looks := false }, kinds := [], alts := [], laidByText := true, laidKinds := [.data, .pinned], laidTests := true, laidLooks := .later }
def RolesApartUptoCardSaid : Prop := Claim7.holds Tryd.pinned (.plain (OpenSpec.upto rolesApartSpec)) rolesApartUptoCard

/-- THE SECOND FORM's CARD OF 'docketlaw20.RolesClosed'. -/
def rolesClosedUptoCard : Claim7 := { stood := { row := rolesClosedUptoRow, standIns := [], harness := (true, "47fcec193f8fdfb97ce69dd99edd9c8e4b8cd1c49dab60c162facae6fee98ac7"), looks := false }, kinds := [], alts := [], laidByText := true, laidKinds := [.data, .pinned], laidTests := true, laidLooks := .later }
def RolesClosedUptoCardSaid : Prop := Claim7.holds Tryd.pinned (.plain (OpenSpec.upto rolesClosedSpec)) rolesClosedUptoCard

/-- THE SECOND FORM's CARD OF 'docketlaw20.RolesHold'. -/
def rolesHoldUptoCard : Claim7 := { stood := { row := rolesHoldUptoRow, standIns := [], harness := (true, "47fcec193f8fdfb97ce69dd99edd9c8e4b8cd1c49dab60c162facae6fee98ac7"), looks := false }, kinds := [], alts := [], laidByText := true, laidKinds := [.data, .pinned], laidTests := true, laidLooks := .later }
def RolesHoldUptoCardSaid : Prop := Claim7.holds Tryd.pinned (.plain (OpenSpec.upto rolesHoldSpec)) rolesHoldUptoCard

/-- THE SECOND FORM's CARD OF 'docketlaw20.RolesGrow'. -/
def rolesGrowUptoCard : Claim7 := { stood := { row := rolesGrowUptoRow, standIns := [], harness := (true, "47fcec193f8fdfb97ce69dd99edd9c8e4b8cd1c49dab60c162facae6fee98ac7"), looks := false }, kinds := [], alts := [], laidByText := true, laidKinds := [.data, .pinned], laidTests := true, laidLooks := .later }
def RolesGrowUptoCardSaid : Prop := Claim7.holds Tryd.pinned (.plain (OpenSpec.upto rolesGrowSpec)) rolesGrowUptoCard

/-- THE SECOND FORM's CARD OF 'docketlaw20.RolesTurned'. -/
def rolesTurnedUptoCard : Claim7 := { stood := { row := rolesTurnedUptoRow, standIns := [], harness := (true, "47fcec193f8fdfb97ce69dd99edd9c8e4b8cd1c49dab60c162facae6fee98ac7"), looks := false }, kinds := [], alts := [], laidByText := true, laidKinds := [.data, .pinned], laidTests := true, laidLooks := .later }
def RolesTurnedUptoCardSaid : Prop := Claim7.holds Tryd.pinned (.plain (OpenSpec.upto rolesTurnedSpec)) rolesTurnedUptoCard

/-- THE SECOND FORM's CARD OF 'docketlaw20.RolesNames'. -/
def rolesNamesUptoCard : Claim7 := { stood := { row := rolesNamesUptoRow, standIns := [], harness := (true, "47fcec193f8fdfb97ce69dd99edd9c8e4b8cd1c49dab60c162facae6fee98ac7"), looks := false }, kinds := [], alts := [], laidByText := true, laidKinds := [.data, .pinned], laidTests := true, laidLooks := .later }
def RolesNamesUptoCardSaid : Prop := Claim7.holds Tryd.pinned (.plain (OpenSpec.upto rolesNamesSpec)) rolesNamesUptoCard
end Rows
end Go.Proofs.YtkiepajhakoeiaaDoor
