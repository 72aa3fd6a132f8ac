/- A text cut at its points, plain. -/
import Derived.Lib.SplitLaws
import Derived.Test.YtflckjabjhmnfaaGreatDoorTok3
namespace Go.Proofs.YtflckjabjhmnfaaGreatDoor
open Go.RowKit

abbrev dot : ByteArray := ⟨#[46]⟩
theorem index_point : ∀ (a r : List UInt8), 46 ∉ a → Lib.index (a ++ 46 :: r) [46] = (a.length : Int)
  | [], r, _ => by simp [Lib.index, List.isPrefixOf]
  | x :: a, r, h => by
    have h1 : x ≠ 46 := fun e => h (e ▸ List.mem_cons_self ..)
    have h2 := index_point a r (fun hm => h (List.mem_cons_of_mem _ hm))
    rw [List.cons_append, Lib.index, if_neg (by simp [List.isPrefixOf, Ne.symm h1]), h2, if_neg (by simp <;> omega)]
    simp
theorem splitK_point (a r : List UInt8) (k : Nat) (h : 46 ∉ a) : Lib.splitK [46] 0 (k + 1) (a ++ 46 :: r) = a :: Lib.splitK [46] 0 k r := by
  rw [Lib.splitK, index_point a r h, if_neg (by simp <;> omega)]
  simp
theorem count_nop {l : List UInt8} (h : 46 ∉ l) : l.count 46 = 0 := List.count_eq_zero.2 h
theorem split_four {tk : ByteArray} {a b c d : List UInt8} (h : a ++ 46 :: (b ++ 46 :: (c ++ 46 :: d)) = tk.data.toList) (ha : 46 ∉ a) (hb : 46 ∉ b) (hc : 46 ∉ c) (hd : 46 ∉ d) :
    Lib.countB tk dot = 3 ∧ (Lib.splitB dot 0 (Lib.countB tk dot) tk).map (·.data.toList) = [a, b, c, d] := by
  have h3 : Lib.countB tk dot = 3 := by
    show Lib.count tk.data.toList [46] = 3
    rw [Lib.count_one, ← h]
    simp only [List.count_append, List.count_cons_self, count_nop ha, count_nop hb, count_nop hc, count_nop hd]
  refine ⟨h3, ?_⟩
  rw [h3, Lib.splitB_data, ← h]
  show Lib.splitK [46] 0 3 _ = _
  rw [splitK_point _ _ _ ha, splitK_point _ _ _ hb, splitK_point _ _ _ hc]
  rfl
theorem splitB_le : ∀ (k : Nat) (s : ByteArray), ∀ x ∈ Lib.splitB dot 0 k s, x.size ≤ s.size
  | 0, s, x, hx => by
    rw [Lib.splitB_zero] at hx
    simp at hx; subst hx; exact Nat.le_refl _
  | k + 1, s, x, hx => by
    unfold Lib.splitB at hx
    split at hx
    · simp at hx; subst hx; exact Nat.le_refl _
    · rcases List.mem_cons.1 hx with rfl | h
      · rw [ByteArray.size_extract]; omega
      · have := splitB_le k _ x h
        rw [ByteArray.size_extract] at this
        omega
/-- a token that was made, cut and read -/
theorem read_made {k : List UInt8} {tk : ByteArray} {t : Sess} (ht : sessB t) (hm : madeT k t = tk.data.toList) :
    Lib.countB tk dot = 3 ∧ ∀ l0 l1 l2 l3, Lib.splitB dot 0 (Lib.countB tk dot) tk = [l0, l1, l2, l3] → Lib.atoiAll l0.data.toList = .ok t.id ∧ Lib.atoiAll l2.data.toList = .ok t.untl ∧ unhex l1.data.toList = some t.user := by
  rw [madeT_parts] at hm
  obtain ⟨h1, h2⟩ := split_four hm (dec_nop _) (hex_nop _) (dec_nop _) (hex_nop _)
  refine ⟨h1, fun l0 l1 l2 l3 hl => ?_⟩
  rw [hl] at h2
  simp only [List.map_cons, List.map_nil, List.cons.injEq, and_true] at h2
  obtain ⟨e0, e1, e2, -⟩ := h2
  obtain ⟨q1, q2, q3, q4, q5⟩ := ht
  rw [e0, e1, e2]
  refine ⟨?_, ?_, unhex_hex _⟩
  · rw [atoi_dec _ (by omega)]; congr 1; omega
  · rw [atoi_dec _ (by omega)]; congr 1; omega
theorem named_len {u : List UInt8} (h : named u = true) : u.length ≤ 32 := by
  unfold named at h
  simp at h
  omega
theorem madeT_len {k : List UInt8} {t : Sess} (ht : sessB t) : (madeT k t).length ≤ 200 := by
  obtain ⟨q1, q2, q3, q4, q5⟩ := ht
  have h1 : Lib.nDigits t.id.toNat ≤ 13 := nd_le 12 _ (by omega)
  have h2 : Lib.nDigits t.untl.toNat ≤ 13 := nd_le 12 _ (by omega)
  have h3 := named_len q3
  rw [madeT_parts]
  simp only [List.length_append, List.length_cons, Lib.decDigits_length, hexB_len, sealW_len]
  omega
end Go.Proofs.YtflckjabjhmnfaaGreatDoor
