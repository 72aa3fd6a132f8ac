/- A world for the witness of the laws on roles: the two tables of unicode/utf8 as they are laid. -/
import Derived.Test.YtkiepajhakoeiaaDoorCards
import Derived.Test.YtkiepajhakoeiaaDoorTie
import Derived.Test.YtkiepajhakoeiaaDoorLaw
namespace Go.Proofs.YtkiepajhakoeiaaDoor
open Go.ChangeShapes Go.WideShapes Go.ChangeAt Go.RowKit

theorem own : ownKnob Tryd.prog.godebug = none := by kernel_rfl
theorem laidOut : laidOutB Tryd.prog = true := by kernel_rfl

def firstCells : Array Value := (Go.Pinned.utf8FirstZ.map fun (n : Nat) => Value.int .u8 (n : Int)).toArray
def acceptCells : Array Value := ([128, 191, 160, 191, 128, 159, 144, 191, 128, 143, 0, 0, 0, 0, 0, 0, 0, 0, 0, 0, 0, 0, 0, 0, 0, 0, 0, 0, 0, 0, 0, 0].map fun n => Value.int .u8 n).toArray
/-- the settled world, the two tables laid -/
noncomputable def laidWorld (os : Os) : World :=
  let put (h : Array Obj) (g : Nat) (cs : Array Value) : Array Obj := h.modify g fun
    | .cells _ t frozen => .cells cs t frozen
    | o => o
  { World.holding Tryd.prog os ⟨#[], #[], []⟩ with heap := put (put (World.holding Tryd.prog os ⟨#[], #[], []⟩).heap 1 firstCells) 2 acceptCells }

/-- No parameter wants a stand-in; the program's own looks are off: what the cards ask. -/
theorem plain_of (name : String) (k : Nat) (fk : Func) (ts : Array TypeId) (h1 : Tryd.prog.funcNamed name = some k) (h2 : Tryd.prog.funcs[k]? = some fk) (h3 : fk.params = ts) (h4 : ts.toList.all (fun t => !Tryd.prog.wantsStandIn t) = true)
    (h5 : false = Tryd.pinned.checked.prog.looks []) (f : FuncId) (fn : Func) (hf : Tryd.pinned.checked.prog.funcNamed name = some f) (hfn : Tryd.pinned.checked.prog.funcs[f]? = some fn) :
    false = Tryd.pinned.checked.prog.looks [] ∧ ∀ (j : Nat) t, fn.params[j]? = some t → Tryd.pinned.checked.prog.wantsStandIn t = false := by
  obtain rfl : f = k := (Option.some.inj (h1.symm.trans hf)).symm
  obtain rfl : fn = fk := (Option.some.inj (h2.symm.trans hfn)).symm
  refine ⟨h5, fun j t ht => ?_⟩
  rw [h3] at ht
  have hm : t ∈ ts.toList := Array.mem_toList_iff.2 (Array.mem_of_getElem? ht)
  have h6 : Tryd.prog.wantsStandIn t = false := by simpa using List.all_eq_true.1 h4 t hm
  exact h6
end Go.Proofs.YtkiepajhakoeiaaDoor
