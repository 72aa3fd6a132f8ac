/- Variables that hold arrays: stored whole, read whole, handed back. -/
import Derived.Test.YtinijohmdljieaaGreatDoorHashWords
import Derived.Test.YtinijohmdljieaaGreatDoorBytes
namespace Go.Proofs.YtinijohmdljieaaGreatDoor
open Go.RowKit

def spl (vs : List Value) : Nat → List Value → List Value
  | _, [] => vs
  | o, u :: r => spl (vs.set o u) (o + 1) r
theorem spl_eq : ∀ (new vs : List Value) (o : Nat), o + new.length ≤ vs.length → spl vs o new = vs.take o ++ new ++ vs.drop (o + new.length)
  | [], vs, o, _ => by simp [spl]
  | u :: r, vs, o, h => by
    simp only [List.length_cons] at h
    rw [spl, spl_eq r (vs.set o u) (o + 1) (by simp; omega)]
    have e : (vs.set o u).take (o + 1) = vs.take o ++ [u] := by
      rw [List.take_succ_eq_append_getElem (by simp; omega), List.take_set_of_le (Nat.le_refl o)]
      simp
    rw [e, List.drop_set_of_lt (by omega), List.length_cons, show o + 1 + r.length = o + (r.length + 1) by omega]
    simp
theorem Arr.setCells {g : Nat} {t : TypeId} : ∀ {new vs : List Value} {o : Nat} {w : World}, Arr w g t vs → Arr (w.setCells g o new) g t (spl vs o new)
  | [], _, _, _, h => h
  | u :: r, vs, o, w, h => by
    rw [World.setCells, spl]
    exact Arr.setCells (new := r) (vs := vs.set o u) (o := o + 1) (w := w.setCell ⟨g, o, none⟩ u) (h.set _ _)
theorem Arr.store {w : World} {g : Nat} {t : TypeId} {vs new : List Value} (h : Arr w g t vs) (hl : new.length = vs.length) : Arr (w.setCells g 0 new) g t new := by
  have := Arr.setCells (new := new) (o := 0) h
  rw [spl_eq _ _ _ (by omega)] at this
  simpa [hl] using this
theorem Arr.part {w : World} {g : Nat} {t : TypeId} {vs new : List Value} (h : Arr w g t vs) (hl : new.length ≤ vs.length) : Arr (w.setCells g 0 new) g t (new ++ vs.drop new.length) := by
  have := Arr.setCells (new := new) (o := 0) h
  rw [spl_eq _ _ _ (by omega)] at this
  simpa using this
theorem Arr.farCells {g b : Nat} {t : TypeId} {vs : List Value} : ∀ {new : List Value} {o : Nat} {w : World}, Arr w g t vs → g ≠ b → Arr (w.setCells b o new) g t vs
  | [], _, _, h, _ => h
  | u :: r, o, w, h, hne => by
    rw [World.setCells]
    exact Arr.farCells (new := r) (o := o + 1) (w := w.setCell ⟨b, o, none⟩ u) (h.far (a := ⟨b, o, none⟩) hne _) hne
theorem below_cells {B b : Nat} {a : World} (hb : B ≤ b) : ∀ (vs : List Value) (o : Nat) {w : World}, Below B a w → Below B a (w.setCells b o vs)
  | [], _, _, h => h
  | _ :: r, o, _, h => below_cells hb r (o + 1) (h.setCell (p := ⟨b, o, none⟩) hb _)
theorem size_cells {b : Nat} : ∀ (vs : List Value) (o : Nat) (w : World), (w.setCells b o vs).heap.size = w.heap.size
  | [], _, _ => rfl
  | u :: r, o, w => by rw [World.setCells, size_cells r]; simp [World.setCell]
theorem Arr.there {w : World} {g : Nat} {t : TypeId} {vs : List Value} (h : Arr w g t vs) {n : Nat} (hn : n ≤ vs.length) : w.there g 0 n := fun j hj => by
  rw [Nat.zero_add]
  exact ⟨by rw [h.cell (by omega)]; rfl, h.frozen j⟩
/-- a function that hands back one array, out of a variable -/
theorem ret_arr {fn : Func} {p : Tmp} {ty t : TypeId} {g : Nat} {w : World} {a : Act} {cs : List Value} {R : Ending → World → Prop} {d : TypeDesc} (h : fn.results = #[.cell p ty]) (hp : a.tmps.getD p undef = .pointer (some ⟨g, 0, none⟩))
    (hd : a.defers = []) (hA : Arr w g t cs) (hu : Tryz.prog.underlying ty = some d) (hr : d.isRow = true) (hi : (Tryz.prog.info? ty).map (·.size) = some cs.length) (hR : R (.returned (.agg cs.toArray)) w) : bodyPost Tryz.prog fn R .ret a w := by
  refine bodyPost_ret ?_ hd hR
  rw [results_cell1 h, hp]
  simp only [asAddr, Sem.run_pure, Result.andThen_ok]
  exact run_loadVar_mid w g 0 ty cs d hA.range hu hr hi
end Go.Proofs.YtinijohmdljieaaGreatDoor
