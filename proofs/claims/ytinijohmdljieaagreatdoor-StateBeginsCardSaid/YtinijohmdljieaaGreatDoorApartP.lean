/- Duties held apart: plain. -/
import Derived.Test.YtinijohmdljieaaGreatDoorRefNamed
import Derived.Deep.LoopGhost
namespace Go.Proofs.YtinijohmdljieaaGreatDoor
open Go.RowKit

def bq (a b : ByteArray) : Bool := a.toList == b.toList
def hit (user role : ByteArray) (p a : ByteArray × ByteArray) : Bool := bq a.1 user && ((bq p.1 role && bq p.2 a.2) || (bq p.2 role && bq p.1 a.2))
def apart (ap ac : List (ByteArray × ByteArray)) (user role : ByteArray) : Bool := ap.any fun p => ac.any (hit user role p)
def apartE (ap ac : List (ByteArray × ByteArray)) (role : ByteArray) : Int := if 32 < ap.length ∨ 1024 < ac.length then 4 else if named role.data.toList then 0 else 5

theorem any_take_succ {α : Type} {p : α → Bool} {l : List α} {k : Nat} (h : k < l.length) : (l.take (k + 1)).any p = ((l.take k).any p || p l[k]) := by
  rw [List.take_succ_eq_append_getElem h, List.any_append]; simp
theorem any_take_all {α : Type} {p : α → Bool} {l : List α} {k : Nat} (h : l.length ≤ k) : (l.take k).any p = l.any p := by
  rw [List.take_of_length_le h]
theorem any_yes {α : Type} {p : α → Bool} {l : List α} {k : Nat} (h : k < l.length) (hp : p l[k] = true) : l.any p = true :=
  List.any_eq_true.2 ⟨l[k], List.getElem_mem h, hp⟩

theorem ret_bi {a b : Bool} {n : Int} (h : a = b) : Ending.returned (.tuple #[.bool b, .int .i64 n]) = Ending.returned (.tuple #[.bool a, .int .i64 n]) := by rw [h]
theorem hno_step {α : Type} {p : α → Bool} {l : List α} {m : Nat} (h : m < l.length) (h0 : Hid ((l.take m).any p = false)) (h1 : p l[m] = false) : Hid ((l.take (m + 1)).any p = false) := by
  show _ = false
  rw [any_take_succ h, h0.out, h1]; rfl
theorem hno_step2 {α : Type} {p : α → Bool} {l : List α} {m : Nat} (h : m < l.length) (h0 : Hid ((l.take m).any p = false)) (h1 : p l[m] = false) : Hid ((l.take (m + 1)).any p = false) := hno_step h h0 h1
theorem hit_yes {user role : ByteArray} {ap ac : List (ByteArray × ByteArray)} {k m : Nat} (h : k < ap.length) (h2 : m < ac.length) (hh : hit user role ap[k] ac[m] = true) : apart ap ac user role = true :=
  any_yes h (any_yes h2 hh)

end Go.Proofs.YtinijohmdljieaaGreatDoor
