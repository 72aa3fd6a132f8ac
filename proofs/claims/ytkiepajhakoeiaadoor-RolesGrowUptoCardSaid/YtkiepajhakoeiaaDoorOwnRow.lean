/- A slice that a call made itself, read as a row; pairs of strings that a call appends. -/
import Derived.Test.YtkiepajhakoeiaaDoorOwn
import Derived.Test.YtkiepajhakoeiaaDoorProg
namespace Go.Proofs.YtkiepajhakoeiaaDoor
open Go.RowKit

theorem own_strs {w : World} {base B : Nat} {E : TypeId} {va : Option Addr} {vc : Nat} {xs : List ByteArray} (h : Own w base E 1 va vc xs.length (xs.map Value.string)) (hB : w.heap.size ≤ B) : Strs B w (.slice va xs.length vc) xs := by
  by_cases h0 : 0 < xs.length
  · obtain ⟨g, rfl, -, hlt, hc, -⟩ := h.cell (by omega)
    refine ⟨some ⟨g, 0, none⟩, vc, g, 0, rfl, h.cap.1, fun _ => ⟨rfl, by omega⟩, fun j x hj => ⟨fun _ => .string x, fun i hi => ?_, rfl⟩⟩
    obtain rfl : i = 0 := by omega
    have := hc j (.string x) (by rw [List.getElem?_map, hj]; rfl)
    simpa using this
  · have : xs = [] := List.eq_nil_of_length_eq_zero (by omega)
    subst this
    exact ⟨va, vc, 0, 0, rfl, h.cap.1, by simp, by simp⟩

def flat2 : List (ByteArray × ByteArray) → List Value
  | [] => []
  | x :: l => .string x.1 :: .string x.2 :: flat2 l
theorem flat2_append : ∀ (l m : List (ByteArray × ByteArray)), flat2 (l ++ m) = flat2 l ++ flat2 m
  | [], _ => rfl
  | x :: l, m => by simp [flat2, flat2_append l m]
theorem flat2_at : ∀ {l : List (ByteArray × ByteArray)} {j : Nat} {x : ByteArray × ByteArray}, l[j]? = some x → (flat2 l)[j * 2]? = some (.string x.1) ∧ (flat2 l)[j * 2 + 1]? = some (.string x.2)
  | [], _, _, h => by simp at h
  | y :: l, 0, x, h => by simp at h; subst h; exact ⟨rfl, rfl⟩
  | y :: l, j + 1, x, h => by
    have := flat2_at (l := l) (j := j) (x := x) (by simpa using h)
    rw [show (j + 1) * 2 = j * 2 + 1 + 1 from by omega]
    exact this
theorem own_str2s {w : World} {base B : Nat} {E : TypeId} {va : Option Addr} {vc : Nat} {xs : List (ByteArray × ByteArray)} (h : Own w base E 2 va vc xs.length (flat2 xs)) (hB : w.heap.size ≤ B) : Str2s B w (.slice va xs.length vc) xs := by
  by_cases h0 : 0 < xs.length
  · obtain ⟨g, rfl, -, hlt, hc, -⟩ := h.cell (by omega)
    refine ⟨some ⟨g, 0, none⟩, vc, g, 0, rfl, h.cap.1, fun _ => ⟨rfl, by omega⟩, fun j x hj => ⟨fun i => if i = 0 then .string x.1 else .string x.2, fun i hi => ?_, rfl, rfl⟩⟩
    obtain ⟨h1, h2⟩ := flat2_at hj
    match i, hi with
    | 0, _ => simpa using hc _ _ h1
    | 1, _ => simpa using hc _ _ h2
  · have : xs = [] := List.eq_nil_of_length_eq_zero (by omega)
    subst this
    exact ⟨va, vc, 0, 0, rfl, h.cap.1, by simp, by simp⟩

theorem elemArr2 : Elem Tryd.prog 22 49 2 32 := ⟨Tryd.underlying22, ⟨.agg #[.string ⟨#[]⟩, .string ⟨#[]⟩], by kernel_rfl, rfl⟩, by omega, Tryd.sizeOf49⟩
def turn2 (ap : List (ByteArray × ByteArray)) : List (ByteArray × ByteArray) := ap.map fun p => (p.2, p.1)
theorem turn2_snoc {ap : List (ByteArray × ByteArray)} {k : Nat} (h : k < ap.length) : flat2 (turn2 (ap.take (k + 1))) = flat2 (turn2 (ap.take k)) ++ [.string ap[k].2, .string ap[k].1] := by
  rw [List.take_succ_eq_append_getElem h, turn2, List.map_append, flat2_append]; rfl
end Go.Proofs.YtkiepajhakoeiaaDoor
