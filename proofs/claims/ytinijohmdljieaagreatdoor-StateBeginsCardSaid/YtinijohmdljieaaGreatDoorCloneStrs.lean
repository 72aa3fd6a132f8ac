/- slices.Clone of strings. -/
import Derived.Test.YtinijohmdljieaaGreatDoorOwn
import Derived.Test.YtinijohmdljieaaGreatDoorShelf
namespace Go.Proofs.YtinijohmdljieaaGreatDoor
open Go.RowKit

theorem elemStr : Elem Tryz.prog 23 9 1 16 := ⟨Tryz.underlying23, ⟨.string ⟨#[]⟩, by kernel_rfl, rfl⟩, by omega, Tryz.sizeOf9⟩

theorem getD_strs {xs : List ByteArray} {w : World} {b off : Nat} (h : ∀ j (hj : j < xs.length), w.cell? ⟨b, off + j, none⟩ = some (.string xs[j])) :
    ∀ j, j < xs.length → w.cell? ⟨b, off + j, none⟩ = some (.string (xs.getD j ByteArray.empty)) := by
  intro j hj
  rw [h j hj, List.getD_eq_getElem?_getD, List.getElem?_eq_getElem hj]; rfl

/-- slices.Clone of texts -/
theorem cloneStrs (v : Value) (xs : List ByteArray) (w : World) (hl : xs.length ≤ 1048576) (h : Strs w.heap.size w v xs) :
    Calls Tryz.prog 41 #[v] w fun e w' => ∃ va vc, e = .returned (.slice va xs.length vc) ∧ Own w' w.heap.size 9 1 va vc xs.length (xs.map Value.string) ∧ Below w.heap.size w w' := by
  obtain ⟨a, c, b, o, rfl, hle, ha, hc⟩ := h.cells
  have fin : ∀ (v' : Value) (w' : World), w'.ownsRow w.heap.size 9 1 v' xs.length (xs.map Value.string) → ∃ va vc, v' = .slice va xs.length vc ∧ Own w' w.heap.size 9 1 va vc xs.length (xs.map Value.string) := by
    intro v' w' hr
    rcases hr.2 with ⟨hv, h0⟩ | ⟨g, cap, _, hv, _⟩
    · exact ⟨none, 0, by rw [hv, h0], ⟨by rw [h0] at hr ⊢; rw [hv] at hr; exact hr⟩⟩
    · exact ⟨_, _, hv, ⟨by rw [hv] at hr; exact hr⟩⟩
  by_cases h0 : 0 < xs.length
  · obtain ⟨rfl, hb⟩ := ha h0
    refine (Tryz.slices_Clone_string b o xs.length c xs w (Nat.le_refl _) (by omega) (getD_strs hc)).mono ?_
    rintro e w' ⟨v', rfl, hr, -, hbw⟩
    rw [List.take_length] at hr
    obtain ⟨va, vc, rfl, hO⟩ := fin v' w' hr
    exact ⟨va, vc, rfl, hO, hbw⟩
  · have : xs = [] := List.eq_nil_of_length_eq_zero (by omega)
    subst this
    cases a with
    | none =>
      refine (Tryz.slices_Clone_string_nil 0 c w).mono ?_
      rintro e w' ⟨rfl, rfl⟩
      exact ⟨none, 0, rfl, Own.nil _ _ _ _, Below.refl _ _⟩
    | some a =>
      refine (Tryz.slices_Clone_string_zero a c w).mono ?_
      rintro e w' ⟨v', rfl, hr, -, hbw⟩
      obtain ⟨va, vc, rfl, hO⟩ := fin v' w' hr
      exact ⟨va, vc, rfl, hO, hbw⟩
/-- a slice of strings of one's own reads as it -/
theorem Own.strs {w : World} {base B vc : Nat} {va : Option Addr} {xs : List ByteArray} (h : Own w base 9 1 va vc xs.length (xs.map Value.string)) (hB : w.heap.size ≤ B) : Strs B w (.slice va xs.length vc) xs := by
  by_cases h0 : 0 < xs.length
  · obtain ⟨g, rfl, -, hlt, hc, -⟩ := h.cell (by omega)
    refine ⟨some ⟨g, 0, none⟩, vc, g, 0, rfl, h.cap.1, fun _ => ⟨rfl, by omega⟩, fun j x hj => ⟨fun _ => .string x, fun i hi => ?_, rfl⟩⟩
    obtain rfl : i = 0 := by omega
    rw [show 0 + j * 1 + 0 = j by omega]
    exact hc j _ (by rw [List.getElem?_map, hj]; rfl)
  · have : xs = [] := List.eq_nil_of_length_eq_zero (by omega)
    subst this
    exact ⟨va, vc, 0, 0, rfl, h.cap.1, by simp, by simp⟩
end Go.Proofs.YtinijohmdljieaaGreatDoor
