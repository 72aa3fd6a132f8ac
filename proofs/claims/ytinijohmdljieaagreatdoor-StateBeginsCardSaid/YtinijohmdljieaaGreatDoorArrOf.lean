/- A variable's block, whole; cells that stay. -/
import Derived.Test.YtinijohmdljieaaGreatDoorOwn
import Derived.Test.YtinijohmdljieaaGreatDoorProg
import Derived.Deep.MidRow
namespace Go.Proofs.YtinijohmdljieaaGreatDoor
open Go.RowKit

theorem cell_far {w : World} {a p : Addr} {u v : Value} (h : w.cell? a = some v) (hne : a.block ≠ p.block) : ((w.setCell p u).drew).cell? a = some v :=
  (World.cell?_of_block (w := w) (Below.heap_setCell w p u a.block hne)).trans h
theorem cell_other {w : World} {g i j : Nat} {u v : Value} (h : w.cell? ⟨g, i, none⟩ = some v) (hne : i ≠ j) : ((w.setCell ⟨g, j, none⟩ u).drew).cell? ⟨g, i, none⟩ = some v := by
  show (w.setCell ⟨g, j, none⟩ u).cell? ⟨g, i, none⟩ = some v
  rw [← h]
  simp only [World.cell?, World.setCell, Array.getElem?_modify]
  cases w.heap[g]? with
  | none => simp
  | some o => cases o <;> simp [Ne.symm hne]
theorem wrap_i64 {x : Int} (h : -9223372036854775808 ≤ x) (h' : x ≤ 9223372036854775807) : IntKind.i64.wrap x = x := by
  simp [IntKind.wrap, IntKind.bits, IntKind.signed]
  omega
/-- a variable's block -/
structure Arr (w : World) (g : Nat) (t : TypeId) (vs : List Value) : Prop where
  heap : w.heap[g]? = some (.cells vs.toArray t (0, 0))
theorem Arr.cell {w : World} {g : Nat} {t : TypeId} {vs : List Value} (h : Arr w g t vs) {j : Nat} (hj : j < vs.length) : w.cell? ⟨g, j, none⟩ = some vs[j] := by
  simp [World.cell?, h.heap, hj]
theorem Arr.range {w : World} {g : Nat} {t : TypeId} {vs : List Value} (h : Arr w g t vs) : w.rangeAt g 0 vs := fun j v hv => by
  rw [Nat.zero_add]
  have hj : j < vs.length := by
    rcases Nat.lt_or_ge j vs.length with h | h
    · exact h
    · rw [List.getElem?_eq_none h] at hv; cases hv
  rw [List.getElem?_eq_getElem hj] at hv
  rw [← hv]
  exact h.cell hj
theorem Arr.frozen {w : World} {g : Nat} {t : TypeId} {vs : List Value} (h : Arr w g t vs) (j : Nat) : w.frozen? ⟨g, j, none⟩ = false := by
  simp [World.frozen?, h.heap]
theorem Arr.lt {w : World} {g : Nat} {t : TypeId} {vs : List Value} (h : Arr w g t vs) : g < w.heap.size := (Array.getElem?_eq_some_iff.1 h.heap).1
theorem Arr.drew {w : World} {g : Nat} {t : TypeId} {vs : List Value} (h : Arr w g t vs) : Arr w.drew g t vs := ⟨h.heap⟩
theorem Arr.drewN {w : World} {g : Nat} {t : TypeId} {vs : List Value} (h : Arr w g t vs) (n : Nat) : Arr (w.drewN n) g t vs := ⟨h.heap⟩
theorem Arr.alloc {w : World} {g : Nat} {t : TypeId} {vs : List Value} (h : Arr w g t vs) (o : Obj) : Arr (w.alloc o) g t vs := ⟨(Below.heap_alloc w o g h.lt).trans h.heap⟩
theorem Arr.set {w : World} {g : Nat} {t : TypeId} {vs : List Value} (h : Arr w g t vs) (j : Nat) (u : Value) : Arr (w.setCell ⟨g, j, none⟩ u) g t (vs.set j u) := by
  refine ⟨?_⟩
  simp only [World.setCell, Array.getElem?_modify, h.heap]
  simp
theorem Arr.far {w : World} {g : Nat} {t : TypeId} {vs : List Value} (h : Arr w g t vs) {a : Addr} (hne : g ≠ a.block) (u : Value) : Arr (w.setCell a u) g t vs := ⟨(Below.heap_setCell w a u g hne).trans h.heap⟩
theorem Arr.below {B : Nat} {w w' : World} {g : Nat} {t : TypeId} {vs : List Value} (h : Arr w g t vs) (hb : Below B w w') (hg : g < B) : Arr w' g t vs := ⟨(hb.block g hg).trans h.heap⟩
theorem Arr.new (w : World) (vs : List Value) (t : TypeId) : Arr (w.alloc (.cells vs.toArray t (0, 0))) w.heap.size t vs := ⟨by simp [show (w.alloc (.cells vs.toArray t (0, 0))).heap = w.heap.push (.cells vs.toArray t (0, 0)) from rfl]⟩
theorem grown_of_below {w w' : World} (hb : Below w.heap.size w w') (row : Option Nat) : w.grownBy w' row := ⟨hb.os, hb.tape, hb.output, hb.size, fun k hk _ => hb.block k hk⟩
theorem grown_drewN {w w' : World} {row : Option Nat} (h : w.grownBy w' row) (n : Nat) : w.grownBy (w'.drewN n) row := ⟨h.os, h.tape, h.output, h.size, h.block⟩
theorem grown_drew {w w' : World} {row : Option Nat} (h : w.grownBy w' row) : w.grownBy w'.drew row := ⟨h.os, h.tape, h.output, h.size, h.block⟩
theorem grown_set {w w' : World} {g : Nat} (h : w.grownBy w' (some g)) (j : Nat) (u : Value) : w.grownBy (w'.setCell ⟨g, j, none⟩ u) (some g) :=
  ⟨h.os, h.tape, h.output, by simpa [World.setCell] using h.size, fun k hk hne => (Below.heap_setCell w' ⟨g, j, none⟩ u k (fun e => hne (by rw [e]))).trans (h.block k hk hne)⟩
end Go.Proofs.YtinijohmdljieaaGreatDoor
