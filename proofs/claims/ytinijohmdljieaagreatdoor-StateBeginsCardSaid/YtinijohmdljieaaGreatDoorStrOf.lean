/- The conversion of bytes to a string. -/
import Derived.Test.YtinijohmdljieaaGreatDoorBytes
import Derived.Laws.BytesArg
namespace Go.Proofs.YtinijohmdljieaaGreatDoor
open Go.RowKit

set_option maxRecDepth 100000 in
/-- 'string(b)' -/
theorem stringOf {B n c : Nat} {w : World} {a : Option Addr} {xs : List UInt8} (h : Bytes B w (.slice a n c) xs) : (convert 152 9 (.slice a n c)).run Tryz.prog w = .ok (.string ⟨xs.toArray⟩) w := by
  obtain ⟨a', c', b, off, he, -, ha, hc⟩ := h.cells
  injection he with e1 e2 e3
  subst e1 e2 e3
  by_cases h0 : 0 < xs.length
  · obtain ⟨rfl, -⟩ := ha h0
    exact run_convert_bytes_back w _ _ 5 ⟨b, off, none⟩ c xs Tryz.underlying152 Tryz.underlying5 Tryz.underlying9 (fun j hj => by rw [Addr.add_lit]; exact hc j hj)
  · have : xs = [] := List.eq_nil_of_length_eq_zero (by omega)
    subst this
    rw [run_convert_bytes_string w _ _ 5 a _ c Tryz.underlying152 Tryz.underlying5 Tryz.underlying9]
    cases a with
    | none => rfl
    | some a => exact run_convert_bytes_back w 152 9 5 a c [] Tryz.underlying152 Tryz.underlying5 Tryz.underlying9 (by simp) ▸ (run_convert_bytes_string w _ _ 5 (some a) _ c Tryz.underlying152 Tryz.underlying5 Tryz.underlying9).symm
end Go.Proofs.YtinijohmdljieaaGreatDoor
