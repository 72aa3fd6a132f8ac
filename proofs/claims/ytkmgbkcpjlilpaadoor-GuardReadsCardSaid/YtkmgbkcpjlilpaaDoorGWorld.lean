/- A world for the witness of the laws on tokens: the listed tables and errors as they are laid; what the walks on guards lean on. -/
import Derived.Lay
import Derived.LaidLaws
import Derived.Stop.LaidErr
import Derived.Test.YtkmgbkcpjlilpaaDoorCards
import Derived.Test.YtkmgbkcpjlilpaaDoorTie
import Derived.Test.YtkmgbkcpjlilpaaDoorLaw
import Derived.Test.YtkmgbkcpjlilpaaDoorShelf
namespace Go.Proofs.YtkmgbkcpjlilpaaDoor
open Go.ChangeShapes Go.WideShapes Go.ChangeAt Go.RowKit

theorem own : ownKnob Tryd.prog.godebug = none := by kernel_rfl
theorem laidOut : laidOutB Tryd.prog = true := by kernel_rfl

/-- the variables that the rows list -/
abbrev tokLaid : List (String × DataW Unit) := [("math/bits.deBruijn32tab", Rows.laid_math_bits_deBruijn32tab), ("math/bits.deBruijn64tab", Rows.laid_math_bits_deBruijn64tab), ("internal/strconv.uint64pow10", Rows.laid_internal_strconv_uint64pow10), ("unicode/utf8.acceptRanges", Rows.laid_unicode_utf8_acceptRanges), ("strconv.ErrRange", Rows.laid_strconv_ErrRange), ("strconv.ErrSyntax", Rows.laid_strconv_ErrSyntax), ("unicode/utf8.first", Rows.laid_unicode_utf8_first)]
theorem star_error : "*" ++ "errors.errorString" = "*errors.errorString" := by decide
theorem row_error (u : TypeId) (h : Tryd.prog.typeName? 3 u = some "*errors.errorString") : u = 116 :=
  typeName_ptr_named (nm := "errors.errorString") (by rw [star_error]; kernel_rfl) (by kernel_rfl) (by decide) u (by rw [star_error]; exact h)
theorem errRange_of {W : World} (hL : laidMet Tryd.prog tokLaid W) : ∃ t p, W.cell? ⟨2, 0, none⟩ = some (.iface t p) := by
  have h3 : laidMet Tryd.prog (("internal/strconv.uint64pow10", Rows.laid_internal_strconv_uint64pow10) :: [("unicode/utf8.acceptRanges", Rows.laid_unicode_utf8_acceptRanges), ("strconv.ErrRange", Rows.laid_strconv_ErrRange), ("strconv.ErrSyntax", Rows.laid_strconv_ErrSyntax), ("unicode/utf8.first", Rows.laid_unicode_utf8_first)]) W := hL.tail.tail
  have h5 := h3.tail.tail
  obtain ⟨a, s, hv, -, -, -⟩ := laid_sentinel (g := 2) (ti := 58) (tp := 116) (te := 118) (ts := 9) h5 (by kernel_rfl) (by kernel_rfl) Tryd.underlying58 row_error Tryd.underlying116 Tryd.underlying118 rfl rfl Tryd.underlying9 (by kernel_rfl) (by kernel_rfl)
  have c1 := World.var?_cell (show Tryd.prog.globalNamed "strconv.ErrRange" = some 2 by kernel_rfl) hv 0
  exact ⟨_, _, by simpa using c1⟩

theorem tab_of {W : World} (hL : laidMet Tryd.prog tokLaid W) : Lib.TabIs Tryd.prog W "internal/strconv.uint64pow10" .u64 Lib.pow10Tab := by
  have h3 : laidMet Tryd.prog (("internal/strconv.uint64pow10", Lib.tabData .u64 Lib.pow10Tab) :: [("unicode/utf8.acceptRanges", Rows.laid_unicode_utf8_acceptRanges), ("strconv.ErrRange", Rows.laid_strconv_ErrRange), ("strconv.ErrSyntax", Rows.laid_strconv_ErrSyntax), ("unicode/utf8.first", Rows.laid_unicode_utf8_first)]) W := hL.tail.tail
  exact Lib.tabIs_of_head (show Tryd.prog.globalNamed "internal/strconv.uint64pow10" = some 5 by kernel_rfl) (by kernel_rfl) Tryd.underlying128 Tryd.underlying92 (by kernel_rfl) (by kernel_rfl) h3

/-- the settled world, the listed variables laid -/
noncomputable def laidWorld (os : Os) : World := World.laidAll Tryd.prog os tokLaid
theorem laidWorld_os (os : Os) : (laidWorld os).os = os := World.laidAll_os _ _ _
theorem laidWorld_met (os : Os) (args : Array Value) : laidMet Tryd.prog tokLaid ((laidWorld os).forCall (fun _ _ => 0) ⟨#[], args, []⟩).memory :=
  laidMet_laidAll args (by kernel_rfl) (by kernel_rfl)

/-- No parameter wants a stand-in; the program's own looks are off: what the cards ask. -/
theorem plain_of {b : Bool} (name : String) (k : Nat) (fk : Func) (ts : Array TypeId) (h1 : Tryd.prog.funcNamed name = some k) (h2 : Tryd.prog.funcs[k]? = some fk) (h3 : fk.params = ts) (h4 : ts.toList.all (fun t => !Tryd.prog.wantsStandIn t) = true)
    (h5 : b = Tryd.pinned.checked.prog.looks []) (f : FuncId) (fn : Func) (hf : Tryd.pinned.checked.prog.funcNamed name = some f) (hfn : Tryd.pinned.checked.prog.funcs[f]? = some fn) :
    b = Tryd.pinned.checked.prog.looks [] ∧ ∀ (j : Nat) t, fn.params[j]? = some t → Tryd.pinned.checked.prog.wantsStandIn t = false := by
  obtain rfl : f = k := (Option.some.inj (h1.symm.trans hf)).symm
  obtain rfl : fn = fk := (Option.some.inj (h2.symm.trans hfn)).symm
  refine ⟨h5, fun j t ht => ?_⟩
  rw [h3] at ht
  have hm : t ∈ ts.toList := Array.mem_toList_iff.2 (Array.mem_of_getElem? ht)
  have h6 : Tryd.prog.wantsStandIn t = false := by simpa using List.all_eq_true.1 h4 t hm
  exact h6
end Go.Proofs.YtkmgbkcpjlilpaaDoor
