/-
  NARROWER THAN 'FOR EVERY INPUT', by the rows' own cells (each row's printed sentence says how): RolesApart: laid · RolesClosed: laid · RolesHold: laid · RolesGrow: laid · RolesTurned: laid · RolesNames: laid.
  DERIVED. THE GIVEN ROWS OF THIS SEAT. 6 by the template 'for every input the law returns true; each argument reads behind the call as it read before'; 0 by the template 'total and deterministic' (their statements: YtkiepajhakoeiaaDoorTotals.lean).
  GIVEN WITH THE SEED: the statements are not yours to turn. If you find one false, say at which input.
  Laid BY PROGRAM, IN A SANDBOX (cutbox-rows.mjs): the forced cells as the released guide's own fill.sh prints them over the translation 22bb204aaa2daeae… (all of the seat's roots in one cut). By AI agents, Wed Nov 11 2026. No macro, syntax, notation, axiom, sorry.
-/
import Derived.Test.YtkiepajhakoeiaaDoorChecked
import GoSem.PinnedTables
import GoSem.Claim
import GoSem.ClaimJoined
import GoSem.ClaimMapViews
import Derived.JoinedTies
import Derived.KernelRfl
namespace Go.Proofs.YtkiepajhakoeiaaDoor
/- THE CELL 'sum', in the pinned program and in every row, IS THE sha256 OF THE DUMP (.gsa) THAT YtkiepajhakoeiaaDoorProg.lean LOADS. Nothing in Lean hashes anything: it is a label: what it is worth is what the hold of that sum in a sandbox is worth. -/
noncomputable def Tryd.pinned : Pinned := { name := "ytkiepajhakoeiaadoor", sum := "22bb204aaa2daeae20c1c03ae387faeab2934a97486dd54929cb60cbba722202", checked := Tryd.checked }
namespace Rows
def none {H : Type} : Left H := { results := [], args := [] }

/- WHAT THE LISTED PACKAGE-LEVEL VARIABLES READ AS WHEN THE CALL BEGINS. Each datum BY PROGRAM (the guide's laid-datum.mjs) off the statement by which the dump's own 'gosem.cut.vars' lays the variable. In a bare row this is a premise. The card (YtkiepajhakoeiaaDoorCards.lean) ties it to the program's text. -/
def laid_unicode_utf8_acceptRanges {H : Type} : DataW H := .agg [.agg [.lit (.int .u8 128), .lit (.int .u8 191)], .agg [.lit (.int .u8 160), .lit (.int .u8 191)], .agg [.lit (.int .u8 128), .lit (.int .u8 159)], .agg [.lit (.int .u8 144), .lit (.int .u8 191)], .agg [.lit (.int .u8 128), .lit (.int .u8 143)], .agg [.lit (.int .u8 0), .lit (.int .u8 0)], .agg [.lit (.int .u8 0), .lit (.int .u8 0)], .agg [.lit (.int .u8 0), .lit (.int .u8 0)], .agg [.lit (.int .u8 0), .lit (.int .u8 0)], .agg [.lit (.int .u8 0), .lit (.int .u8 0)], .agg [.lit (.int .u8 0), .lit (.int .u8 0)], .agg [.lit (.int .u8 0), .lit (.int .u8 0)], .agg [.lit (.int .u8 0), .lit (.int .u8 0)], .agg [.lit (.int .u8 0), .lit (.int .u8 0)], .agg [.lit (.int .u8 0), .lit (.int .u8 0)], .agg [.lit (.int .u8 0), .lit (.int .u8 0)]]
/-- One of Go's own tables, pinned by name: the form's constant. -/
def laid_unicode_utf8_first : DataW Unit := Go.Pinned.utf8First

/-- 'docketlaw20.RolesApart': WHATEVER THE INPUT: true; the input reads as it did. -/
def rolesApartSpec : ChangeSpec := { name := "rolesApart", fn := fun _ => fun
  | [d1, d2, d3, d4] => { results := [.lit (.bool true)], args := [d1, d2, d3, d4] }
  | _ => none }
def rolesApartRow : OpenClaim := { program := "ytkiepajhakoeiaadoor", sum := "22bb204aaa2daeae20c1c03ae387faeab2934a97486dd54929cb60cbba722202", func := "docket/docketlaw20.RolesApart", spec := "rolesApart", inPlace := ["internal/bytealg.IndexByteString", "internal/bytealg.IndexString"], unfollowed := true, recurses := true, named := ["unicode/utf8.first", "unicode/utf8.acceptRanges", "internal/bytealg.MaxLen"], apart := false, laid := [("unicode/utf8.acceptRanges", laid_unicode_utf8_acceptRanges), ("unicode/utf8.first", laid_unicode_utf8_first)] }
def RolesApartSaid : Prop := rolesApartRow.holds Tryd.pinned (OpenSpec.ofChange rolesApartSpec)

/-- ITS FALSE NEIGHBOUR: 'it returns false'. Refute it at one input. -/
def rolesApartWrong : ChangeSpec := { name := "rolesApart", fn := fun _ => fun
  | [d1, d2, d3, d4] => { results := [.lit (.bool false)], args := [d1, d2, d3, d4] }
  | _ => none }
def RolesApartWrongFalsely : Prop := rolesApartRow.holds Tryd.pinned (OpenSpec.ofChange rolesApartWrong)

/-- 'docketlaw20.RolesClosed': WHATEVER THE INPUT: true; the input reads as it did. -/
def rolesClosedSpec : ChangeSpec := { name := "rolesClosed", fn := fun _ => fun
  | [d1, d2, d3] => { results := [.lit (.bool true)], args := [d1, d2, d3] }
  | _ => none }
def rolesClosedRow : OpenClaim := { program := "ytkiepajhakoeiaadoor", sum := "22bb204aaa2daeae20c1c03ae387faeab2934a97486dd54929cb60cbba722202", func := "docket/docketlaw20.RolesClosed", spec := "rolesClosed", inPlace := ["internal/bytealg.IndexByteString", "internal/bytealg.IndexString"], unfollowed := true, recurses := true, named := ["unicode/utf8.first", "unicode/utf8.acceptRanges", "internal/bytealg.MaxLen"], apart := false, laid := [("unicode/utf8.acceptRanges", laid_unicode_utf8_acceptRanges), ("unicode/utf8.first", laid_unicode_utf8_first)] }
def RolesClosedSaid : Prop := rolesClosedRow.holds Tryd.pinned (OpenSpec.ofChange rolesClosedSpec)

/-- ITS FALSE NEIGHBOUR: 'it returns false'. Refute it at one input. -/
def rolesClosedWrong : ChangeSpec := { name := "rolesClosed", fn := fun _ => fun
  | [d1, d2, d3] => { results := [.lit (.bool false)], args := [d1, d2, d3] }
  | _ => none }
def RolesClosedWrongFalsely : Prop := rolesClosedRow.holds Tryd.pinned (OpenSpec.ofChange rolesClosedWrong)

/-- 'docketlaw20.RolesHold': WHATEVER THE INPUT: true; the input reads as it did. -/
def rolesHoldSpec : ChangeSpec := { name := "rolesHold", fn := fun _ => fun
  | [d1, d2, d3] => { results := [.lit (.bool true)], args := [d1, d2, d3] }
  | _ => none }
def rolesHoldRow : OpenClaim := { program := "ytkiepajhakoeiaadoor", sum := "22bb204aaa2daeae20c1c03ae387faeab2934a97486dd54929cb60cbba722202", func := "docket/docketlaw20.RolesHold", spec := "rolesHold", inPlace := ["internal/bytealg.IndexByteString", "internal/bytealg.IndexString"], unfollowed := true, recurses := true, named := ["unicode/utf8.first", "unicode/utf8.acceptRanges", "internal/bytealg.MaxLen"], apart := false, laid := [("unicode/utf8.acceptRanges", laid_unicode_utf8_acceptRanges), ("unicode/utf8.first", laid_unicode_utf8_first)] }
def RolesHoldSaid : Prop := rolesHoldRow.holds Tryd.pinned (OpenSpec.ofChange rolesHoldSpec)

/-- ITS FALSE NEIGHBOUR: 'it returns false'. Refute it at one input. -/
def rolesHoldWrong : ChangeSpec := { name := "rolesHold", fn := fun _ => fun
  | [d1, d2, d3] => { results := [.lit (.bool false)], args := [d1, d2, d3] }
  | _ => none }
def RolesHoldWrongFalsely : Prop := rolesHoldRow.holds Tryd.pinned (OpenSpec.ofChange rolesHoldWrong)

/-- 'docketlaw20.RolesGrow': WHATEVER THE INPUT: true; the input reads as it did. -/
def rolesGrowSpec : ChangeSpec := { name := "rolesGrow", fn := fun _ => fun
  | [d1, d2, d3, d4] => { results := [.lit (.bool true)], args := [d1, d2, d3, d4] }
  | _ => none }
def rolesGrowRow : OpenClaim := { program := "ytkiepajhakoeiaadoor", sum := "22bb204aaa2daeae20c1c03ae387faeab2934a97486dd54929cb60cbba722202", func := "docket/docketlaw20.RolesGrow", spec := "rolesGrow", inPlace := ["internal/bytealg.IndexByteString", "internal/bytealg.IndexString"], unfollowed := true, recurses := true, named := ["unicode/utf8.first", "unicode/utf8.acceptRanges", "internal/bytealg.MaxLen"], apart := false, laid := [("unicode/utf8.acceptRanges", laid_unicode_utf8_acceptRanges), ("unicode/utf8.first", laid_unicode_utf8_first)] }
def RolesGrowSaid : Prop := rolesGrowRow.holds Tryd.pinned (OpenSpec.ofChange rolesGrowSpec)

/-- ITS FALSE NEIGHBOUR: 'it returns false'. Refute it at one input. -/
def rolesGrowWrong : ChangeSpec := { name := "rolesGrow", fn := fun _ => fun
  | [d1, d2, d3, d4] => { results := [.lit (.bool false)], args := [d1, d2, d3, d4] }
  | _ => none }
def RolesGrowWrongFalsely : Prop := rolesGrowRow.holds Tryd.pinned (OpenSpec.ofChange rolesGrowWrong)

/-- 'docketlaw20.RolesTurned': WHATEVER THE INPUT: true; the input reads as it did. -/
def rolesTurnedSpec : ChangeSpec := { name := "rolesTurned", fn := fun _ => fun
  | [d1, d2, d3, d4] => { results := [.lit (.bool true)], args := [d1, d2, d3, d4] }
  | _ => none }
def rolesTurnedRow : OpenClaim := { program := "ytkiepajhakoeiaadoor", sum := "22bb204aaa2daeae20c1c03ae387faeab2934a97486dd54929cb60cbba722202", func := "docket/docketlaw20.RolesTurned", spec := "rolesTurned", inPlace := ["internal/bytealg.IndexByteString", "internal/bytealg.IndexString"], unfollowed := true, recurses := true, named := ["unicode/utf8.first", "unicode/utf8.acceptRanges", "internal/bytealg.MaxLen"], apart := false, laid := [("unicode/utf8.acceptRanges", laid_unicode_utf8_acceptRanges), ("unicode/utf8.first", laid_unicode_utf8_first)] }
def RolesTurnedSaid : Prop := rolesTurnedRow.holds Tryd.pinned (OpenSpec.ofChange rolesTurnedSpec)

/-- ITS FALSE NEIGHBOUR: 'it returns false'. Refute it at one input. -/
def rolesTurnedWrong : ChangeSpec := { name := "rolesTurned", fn := fun _ => fun
  | [d1, d2, d3, d4] => { results := [.lit (.bool false)], args := [d1, d2, d3, d4] }
  | _ => none }
def RolesTurnedWrongFalsely : Prop := rolesTurnedRow.holds Tryd.pinned (OpenSpec.ofChange rolesTurnedWrong)

/-- 'docketlaw20.RolesNames': WHATEVER THE INPUT: true; the input reads as it did. -/
def rolesNamesSpec : ChangeSpec := { name := "rolesNames", fn := fun _ => fun
  | [] => { results := [.lit (.bool true)], args := [] }
  | _ => none }
def rolesNamesRow : OpenClaim := { program := "ytkiepajhakoeiaadoor", sum := "22bb204aaa2daeae20c1c03ae387faeab2934a97486dd54929cb60cbba722202", func := "docket/docketlaw20.RolesNames", spec := "rolesNames", inPlace := ["internal/bytealg.IndexByteString", "internal/bytealg.IndexString"], unfollowed := true, recurses := true, named := ["unicode/utf8.first", "unicode/utf8.acceptRanges", "internal/bytealg.MaxLen"], apart := false, laid := [("unicode/utf8.acceptRanges", laid_unicode_utf8_acceptRanges), ("unicode/utf8.first", laid_unicode_utf8_first)] }
def RolesNamesSaid : Prop := rolesNamesRow.holds Tryd.pinned (OpenSpec.ofChange rolesNamesSpec)

/-- ITS FALSE NEIGHBOUR: 'it returns false'. Refute it at one input. -/
def rolesNamesWrong : ChangeSpec := { name := "rolesNames", fn := fun _ => fun
  | [] => { results := [.lit (.bool false)], args := [] }
  | _ => none }
def RolesNamesWrongFalsely : Prop := rolesNamesRow.holds Tryd.pinned (OpenSpec.ofChange rolesNamesWrong)

/- THE SECOND FORM. 'bulk': how many values and letters a reading holds, each counted each time it is reached (what is shared counts as often as it is met; a slice's spare places count too). A statement '..UptoSaid' is the law's where the arguments, and the package variables that the reading takes, are together of bulk at most 1048576: NARROWER than '..Said'. Prove '..Said' where nothing that the law and all that it calls make is longer than what came in: it says more and counts as full. Else prove '..UptoSaid'. A law counts once. -/
mutual
def uptoBulk {H : Type} : DataW H → Nat
  | .lit (.string bytes) => bytes.length + 1
  | .lit _ => 1
  | .nil => 1
  | .ptr d => uptoBulk d + 1
  | .slice elems spare => uptoBulkAll elems + uptoBulkAll spare + 1
  | .agg parts => uptoBulkAll parts + 1
  | .iface _ d => uptoBulk d + 1
  | .map entries => uptoBulkEntries entries + 1
  | .held _ => 1
def uptoBulkAll {H : Type} : List (DataW H) → Nat
  | [] => 0
  | d :: r => uptoBulk d + uptoBulkAll r
def uptoBulkEntries {H : Type} : List (Lit × DataW H) → Nat
  | [] => 0
  | x :: r => uptoBulkEntry x + uptoBulkEntries r
def uptoBulkEntry {H : Type} : Lit × DataW H → Nat
  | (.string bytes, d) => bytes.length + uptoBulk d + 1
  | (_, d) => uptoBulk d + 1
 end
def uptoSmall : (H : Type) → List (DataW H) → Bool := fun _ ds => decide (uptoBulkAll ds ≤ 1048576)
def OpenSpec.upto (s : _root_.Go.ChangeSpec) : _root_.Go.OpenSpec := { _root_.Go.OpenSpec.ofChange s with cond := some uptoSmall }

/-- 'docketlaw20.RolesApart', WHERE WHAT IT READS IS OF BULK AT MOST 1048576: true; the input reads as it did. -/
def rolesApartUptoRow : OpenClaim := { program := "ytkiepajhakoeiaadoor", sum := "22bb204aaa2daeae20c1c03ae387faeab2934a97486dd54929cb60cbba722202", func := "docket/docketlaw20.RolesApart", spec := "rolesApart", inPlace := ["internal/bytealg.IndexByteString", "internal/bytealg.IndexString"], unfollowed := true, recurses := true, named := ["unicode/utf8.first", "unicode/utf8.acceptRanges", "internal/bytealg.MaxLen"], apart := false, laid := [("unicode/utf8.acceptRanges", laid_unicode_utf8_acceptRanges), ("unicode/utf8.first", laid_unicode_utf8_first)], narrowed := true }
def RolesApartUptoSaid : Prop := rolesApartUptoRow.holds Tryd.pinned (OpenSpec.upto rolesApartSpec)

/-- 'docketlaw20.RolesClosed', WHERE WHAT IT READS IS OF BULK AT MOST 1048576: true; the input reads as it did. -/
def rolesClosedUptoRow : OpenClaim := { program := "ytkiepajhakoeiaadoor", sum := "22bb204aaa2daeae20c1c03ae387faeab2934a97486dd54929cb60cbba722202", func := "docket/docketlaw20.RolesClosed", spec := "rolesClosed", inPlace := ["internal/bytealg.IndexByteString", "internal/bytealg.IndexString"], unfollowed := true, recurses := true, named := ["unicode/utf8.first", "unicode/utf8.acceptRanges", "internal/bytealg.MaxLen"], apart := false, laid := [("unicode/utf8.acceptRanges", laid_unicode_utf8_acceptRanges), ("unicode/utf8.first", laid_unicode_utf8_first)], narrowed := true }
def RolesClosedUptoSaid : Prop := rolesClosedUptoRow.holds Tryd.pinned (OpenSpec.upto rolesClosedSpec)

/-- 'docketlaw20.RolesHold', WHERE WHAT IT READS IS OF BULK AT MOST 1048576: true; the input reads as it did. -/
def rolesHoldUptoRow : OpenClaim := { program := "ytkiepajhakoeiaadoor", sum := "22bb204aaa2daeae20c1c03ae387faeab2934a97486dd54929cb60cbba722202", func := "docket/docketlaw20.RolesHold", spec := "rolesHold", inPlace := ["internal/bytealg.IndexByteString", "internal/bytealg.IndexString"], unfollowed := true, recurses := true, named := ["unicode/utf8.first", "unicode/utf8.acceptRanges", "internal/bytealg.MaxLen"], apart := false, laid := [("unicode/utf8.acceptRanges", laid_unicode_utf8_acceptRanges), ("unicode/utf8.first", laid_unicode_utf8_first)], narrowed := true }
def RolesHoldUptoSaid : Prop := rolesHoldUptoRow.holds Tryd.pinned (OpenSpec.upto rolesHoldSpec)

/-- 'docketlaw20.RolesGrow', WHERE WHAT IT READS IS OF BULK AT MOST 1048576: true; the input reads as it did. -/
def rolesGrowUptoRow : OpenClaim := { program := "ytkiepajhakoeiaadoor", sum := "22bb204aaa2daeae20c1c03ae387faeab2934a97486dd54929cb60cbba722202", func := "docket/docketlaw20.RolesGrow", spec := "rolesGrow", inPlace := ["internal/bytealg.IndexByteString", "internal/bytealg.IndexString"], unfollowed := true, recurses := true, named := ["unicode/utf8.first", "unicode/utf8.acceptRanges", "internal/bytealg.MaxLen"], apart := false, laid := [("unicode/utf8.acceptRanges", laid_unicode_utf8_acceptRanges), ("unicode/utf8.first", laid_unicode_utf8_first)], narrowed := true }
def RolesGrowUptoSaid : Prop := rolesGrowUptoRow.holds Tryd.pinned (OpenSpec.upto rolesGrowSpec)

/-- 'docketlaw20.RolesTurned', WHERE WHAT IT READS IS OF BULK AT MOST 1048576: true; the input reads as it did. -/
def rolesTurnedUptoRow : OpenClaim := { program := "ytkiepajhakoeiaadoor", sum := "22bb204aaa2daeae20c1c03ae387faeab2934a97486dd54929cb60cbba722202", func := "docket/docketlaw20.RolesTurned", spec := "rolesTurned", inPlace := ["internal/bytealg.IndexByteString", "internal/bytealg.IndexString"], unfollowed := true, recurses := true, named := ["unicode/utf8.first", "unicode/utf8.acceptRanges", "internal/bytealg.MaxLen"], apart := false, laid := [("unicode/utf8.acceptRanges", laid_unicode_utf8_acceptRanges), ("unicode/utf8.first", laid_unicode_utf8_first)], narrowed := true }
def RolesTurnedUptoSaid : Prop := rolesTurnedUptoRow.holds Tryd.pinned (OpenSpec.upto rolesTurnedSpec)

/-- 'docketlaw20.RolesNames', WHERE WHAT IT READS IS OF BULK AT MOST 1048576: true; the input reads as it did. -/
def rolesNamesUptoRow : OpenClaim := { program := "ytkiepajhakoeiaadoor", sum := "22bb204aaa2daeae20c1c03ae387faeab2934a97486dd54929cb60cbba722202", func := "docket/docketlaw20.RolesNames", spec := "rolesNames", inPlace := ["internal/bytealg.IndexByteString", "internal/bytealg.IndexString"], unfollowed := true, recurses := true, named := ["unicode/utf8.first", "unicode/utf8.acceptRanges", "internal/bytealg.MaxLen"], apart := false, laid := [("unicode/utf8.acceptRanges", laid_unicode_utf8_acceptRanges), ("unicode/utf8.first", laid_unicode_utf8_first)], narrowed := true }
def RolesNamesUptoSaid : Prop := rolesNamesUptoRow.holds Tryd.pinned (OpenSpec.upto rolesNamesSpec)

end Rows
end Go.Proofs.YtkiepajhakoeiaaDoor
