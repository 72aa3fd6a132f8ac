/- A slice of strings among the arguments of a law. -/
import Derived.Test.YtkiepajhakoeiaaLaw
namespace Go.Proofs.Ytkiepajhakoeiaa
open Go.ChangeShapes Go.WideShapes Go.ChangeAt Go.RowKit Go.Deep

def StrOkR (_ : World) (cs : Nat → Value) (s : ByteArray) : Prop := cs 0 = .string s ∧ s.size ≤ maxLen
theorem okStrs {B : Nat} {w : World} {v : Value} {xs : List ByteArray} (h : Row 1 StrOkR B w v xs) : Strs B w v xs ∧ ∀ s ∈ xs, s.size ≤ maxLen := by
  obtain ⟨a, c, b, off, hv, hle, ha, hc⟩ := h.ex
  refine ⟨⟨a, c, b, off, hv, hle, ha, fun j x hj => ?_⟩, fun s hs => ?_⟩
  · obtain ⟨cs, h1, h2⟩ := hc j x hj
    exact ⟨cs, h1, h2.1⟩
  · obtain ⟨j, hj, rfl⟩ := List.mem_iff_getElem.1 hs
    obtain ⟨cs, h1, h2⟩ := hc j _ (List.getElem?_eq_getElem hj)
    exact h2.2

section
variable {H : Type} {enc : TypeId × Value → H} {P : Program} {w : World} {base : Nat} {spare : Nat → Bool} {held : Bool}
theorem elStrOk {e : TypeId} (he : P.underlying e = some .string)
    (n : Nat) (cs : List Value) (y : DataW H × List MemPlace) (hl : cs.length = 1) (h : DataW.trod enc P w base spare held n e cs = some y) : ∃ a : ByteArray, StrOkR w (fun i => cs.getD i undef) a := by
  obtain ⟨s, rfl, -, hs⟩ := DataW.trod_string he h
  exact ⟨s, rfl, hs⟩
theorem openStrs {t e : TypeId} (ht : P.underlying t = some (.slice e)) (he : P.underlying e = some .string) (hk : P.cellsOf e = 1)
    {n : Nat} {v : Value} {x : DataW H × List MemPlace} (h : DataW.trod enc P w base spare held n t [v] = some x) : ∃ xs : List ByteArray, Strs w.heap.size w v xs ∧ xs.length ≤ maxLen ∧ ∀ s ∈ xs, s.size ≤ maxLen := by
  obtain ⟨xs, h1, h2⟩ := openRow ht hk (by omega) (elStrOk he) h
  exact ⟨xs, (okStrs h1).1, h2, (okStrs h1).2⟩
end
end Go.Proofs.Ytkiepajhakoeiaa
