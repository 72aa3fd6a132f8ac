/- Appending a list of strings to one that the call owns. -/
import Derived.Test.YtkiepajhakoeiaaDoorOwnRow
import Derived.Test.YtkiepajhakoeiaaDoorRolesClosed
namespace Go.Proofs.YtkiepajhakoeiaaDoor
open Go.RowKit

theorem Own.appStrs {w : World} {base B vc n c : Nat} {va a : Option Addr} {xs ys : List ByteArray} (h : Own w base 9 1 va vc n (xs.map Value.string)) (hbase : base ≤ w.heap.size)
    (hs : Strs B w (.slice a ys.length c) ys) (hn : n + ys.length ≤ 1000000) :
    ∃ va' vc' w', (Builtin.append_ #[31, 31] 31 #[.slice va n vc, .slice a ys.length c]).run Tryd.prog w = .ok (.slice va' (n + ys.length) vc') w' ∧ Own w' base 9 1 va' vc' (n + ys.length) ((xs ++ ys).map Value.string) ∧ w.grownBy w' (blockOf va) := by
  obtain ⟨a', c', b, o, he, -, ha, hc⟩ := hs.cells
  injection he with e1 e2 e3
  subst e1 e3
  obtain ⟨va', vc', w', h1, h2, h3⟩ := Own.app elemStr 31 h hbase a ys.length c b o (ys.map Value.string) (by simp) (fun h => (ha h).1) (by
      intro j u hj
      have hjl : j < ys.length := by
        rcases Nat.lt_or_ge j ys.length with h | h
        · exact h
        · rw [List.getElem?_eq_none (by simpa using h)] at hj; cases hj
      rw [hc j hjl, ← hj]
      simp [hjl]) (by intro u hu; obtain ⟨s, -, rfl⟩ := List.mem_map.1 hu; rfl) (by unfold maxLen; omega) (by omega)
  exact ⟨va', vc', w', h1, by rw [List.map_append]; exact h2, h3⟩
theorem Own.nilStrs (w : World) (base : Nat) : Own w base 9 1 none 0 0 (([] : List ByteArray).map Value.string) := Own.nil _ _ _ _
theorem Own.belowGrown {w w' W : World} {base B vc n k : Nat} {E : TypeId} {va : Option Addr} {cells : List Value} (h : Own w base E k va vc n cells) (hb : Below B W w) (hB : B ≤ base) (hB' : B ≤ w.heap.size) (hg : w.grownBy w' (blockOf va)) : Below B W w' :=
  hb.grown hg hB' fun j hj => by
    cases va with
    | none => cases hj
    | some x =>
      injection hj with hj
      subst hj
      rcases h.block with ⟨h1, -⟩ | ⟨g, h1, h2, -⟩
      · cases h1
      · cases h1; exact Nat.le_trans hB h2
end Go.Proofs.YtkiepajhakoeiaaDoor
