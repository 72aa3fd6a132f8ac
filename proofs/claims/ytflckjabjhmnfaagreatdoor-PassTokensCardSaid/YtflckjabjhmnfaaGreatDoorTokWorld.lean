/- A world for the witness of the laws on tokens: the listed tables and errors as they are laid; what the walks lean on, from the row's condition. -/
import Derived.Lay
import Derived.LaidLaws
import Derived.Stop.LaidErr
import Derived.Test.YtflckjabjhmnfaaGreatDoorCards
import Derived.Test.YtflckjabjhmnfaaGreatDoorTie
import Derived.Test.YtflckjabjhmnfaaGreatDoorLaw
import Derived.Test.YtflckjabjhmnfaaGreatDoorTokW
namespace Go.Proofs.YtflckjabjhmnfaaGreatDoor
open Go.ChangeShapes Go.WideShapes Go.ChangeAt Go.RowKit

theorem own : ownKnob Tryz.prog.godebug = none := by kernel_rfl
theorem laidOut : laidOutB Tryz.prog = true := by kernel_rfl

/-- the variables that the rows list -/
abbrev tokLaid : List (String × DataW Unit) := [("math/bits.deBruijn32tab", Rows.laid_math_bits_deBruijn32tab), ("math/bits.deBruijn64tab", Rows.laid_math_bits_deBruijn64tab), ("internal/strconv.uint64pow10", Rows.laid_internal_strconv_uint64pow10), ("unicode/utf8.acceptRanges", Rows.laid_unicode_utf8_acceptRanges), ("strconv.ErrRange", Rows.laid_strconv_ErrRange), ("strconv.ErrSyntax", Rows.laid_strconv_ErrSyntax), ("unicode/utf8.first", Rows.laid_unicode_utf8_first)]
theorem star_error : "*" ++ "errors.errorString" = "*errors.errorString" := by decide
theorem row_error (u : TypeId) (h : Tryz.prog.typeName? 3 u = some "*errors.errorString") : u = 129 :=
  typeName_ptr_named (nm := "errors.errorString") (by rw [star_error]; kernel_rfl) (by kernel_rfl) (by decide) u (by rw [star_error]; exact h)
theorem tokW_of {W : World} (hL : laidMet Tryz.prog tokLaid W) (hsh : W.ShapedOpen Tryz.prog) : TokW W := by
  have h3 : laidMet Tryz.prog (("internal/strconv.uint64pow10", Lib.tabData .u64 Lib.pow10Tab) :: [("unicode/utf8.acceptRanges", Rows.laid_unicode_utf8_acceptRanges), ("strconv.ErrRange", Rows.laid_strconv_ErrRange), ("strconv.ErrSyntax", Rows.laid_strconv_ErrSyntax), ("unicode/utf8.first", Rows.laid_unicode_utf8_first)]) W := hL.tail.tail
  have h5 := h3.tail.tail
  obtain ⟨a, s, hv, -, -, -⟩ := laid_sentinel (g := 1) (ti := 43) (tp := 129) (te := 131) (ts := 9) h5 (by kernel_rfl) (by kernel_rfl) Tryz.underlying43 row_error Tryz.underlying129 Tryz.underlying131 rfl rfl Tryz.underlying9 (by kernel_rfl) (by kernel_rfl)
  obtain ⟨a2, s2, hv2, -, -, -⟩ := laid_sentinel (g := 0) (ti := 43) (tp := 129) (te := 131) (ts := 9) h5.tail (by kernel_rfl) (by kernel_rfl) Tryz.underlying43 row_error Tryz.underlying129 Tryz.underlying131 rfl rfl Tryz.underlying9 (by kernel_rfl) (by kernel_rfl)
  have c1 := World.var?_cell (show Tryz.prog.globalNamed "strconv.ErrRange" = some 1 by kernel_rfl) hv 0
  have c2 := World.var?_cell (show Tryz.prog.globalNamed "strconv.ErrSyntax" = some 0 by kernel_rfl) hv2 0
  refine ⟨Lib.tabIs_of_head pow10_var (by kernel_rfl) Tryz.underlying133 Tryz.underlying95 (by kernel_rfl) (by kernel_rfl) h3, ⟨_, _, by simpa using c2⟩, ⟨_, _, by simpa using c1⟩, ?_⟩
  exact cell_of_shapedOpen_int (zero := #[.int .i64 0]) (t := 3) hsh (of_decide_eq_true (by kernel_rfl)) (by kernel_rfl) rfl (by kernel_rfl) (by kernel_rfl) Tryz.underlying3

/-- the settled world, the listed variables laid -/
noncomputable def laidWorld (os : Os) : World := World.laidAll Tryz.prog os tokLaid
theorem laidWorld_os (os : Os) : (laidWorld os).os = os := World.laidAll_os _ _ _
theorem laidWorld_met (os : Os) (args : Array Value) : laidMet Tryz.prog tokLaid ((laidWorld os).forCall (fun _ _ => 0) ⟨#[], args, []⟩).memory :=
  laidMet_laidAll args (by kernel_rfl) (by kernel_rfl)

/-- No parameter wants a stand-in; the program's own looks are off: what the cards ask. -/
theorem plain_of {b : Bool} (name : String) (k : Nat) (fk : Func) (ts : Array TypeId) (h1 : Tryz.prog.funcNamed name = some k) (h2 : Tryz.prog.funcs[k]? = some fk) (h3 : fk.params = ts) (h4 : ts.toList.all (fun t => !Tryz.prog.wantsStandIn t) = true)
    (h5 : b = Tryz.pinned.checked.prog.looks []) (f : FuncId) (fn : Func) (hf : Tryz.pinned.checked.prog.funcNamed name = some f) (hfn : Tryz.pinned.checked.prog.funcs[f]? = some fn) :
    b = Tryz.pinned.checked.prog.looks [] ∧ ∀ (j : Nat) t, fn.params[j]? = some t → Tryz.pinned.checked.prog.wantsStandIn t = false := by
  obtain rfl : f = k := (Option.some.inj (h1.symm.trans hf)).symm
  obtain rfl : fn = fk := (Option.some.inj (h2.symm.trans hfn)).symm
  refine ⟨h5, fun j t ht => ?_⟩
  rw [h3] at ht
  have hm : t ∈ ts.toList := Array.mem_toList_iff.2 (Array.mem_of_getElem? ht)
  have h6 : Tryz.prog.wantsStandIn t = false := by simpa using List.all_eq_true.1 h4 t hm
  exact h6
end Go.Proofs.YtflckjabjhmnfaaGreatDoor
