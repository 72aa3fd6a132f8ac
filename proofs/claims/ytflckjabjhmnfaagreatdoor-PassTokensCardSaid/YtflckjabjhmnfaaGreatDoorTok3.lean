/- What was written in sixteens is read back. -/
import Derived.Test.YtflckjabjhmnfaaGreatDoorTok
namespace Go.Proofs.YtflckjabjhmnfaaGreatDoor
open Go.RowKit
theorem hv_hx_eq (n : Nat) (h : n < 16) : hv (hx n) = n := by
  have : ∀ n : Fin 16, hv (hx n.val) = (n.val : Int) := by decide +kernel
  exact this ⟨n, h⟩
theorem hexB_cons (z : UInt8) (t : List UInt8) : hexB (z :: t) = hx (z.toNat / 16) :: hx (z.toNat % 16) :: hexB t := by simp [hexB]
theorem hexB_getD : ∀ (bs : List UInt8) (j : Nat) (h : j < bs.length), (hexB bs).getD (2 * j) 0 = hx (bs[j].toNat / 16) ∧ (hexB bs).getD (2 * j + 1) 0 = hx (bs[j].toNat % 16)
  | b :: r, 0, _ => by rw [hexB_cons]; exact ⟨rfl, rfl⟩
  | b :: r, j + 1, h => by
    rw [hexB_cons, show 2 * (j + 1) = 2 * j + 1 + 1 by omega]
    simpa using hexB_getD r j (by simpa using h)
theorem unhex_hex (bs : List UInt8) : unhex (hexB bs) = some bs := by
  have h := unhex_hexB bs
  unfold unhex at h ⊢
  split
  · congr 1
    apply List.ext_getElem
    · rw [uRow_len, hexB_len]; omega
    · intro j h1 h2
      rw [uRow_get _ _ _ (by rw [hexB_len]; omega), uAt, if_pos (by rw [hexB_len]; omega), (hexB_getD bs j h2).1, (hexB_getD bs j h2).2, hv_hx_eq _ (by have := bs[j].toNat_lt; omega), hv_hx_eq _ (by omega)]
      have hb := bs[j].toNat_lt
      apply UInt8.toNat_inj.1
      have := b8_toNat (16 * ((bs[j].toNat / 16 : Nat) : Int) + ((bs[j].toNat % 16 : Nat) : Int)) (by omega) (by omega)
      omega
  · rename_i hn
    rw [if_neg hn] at h
    cases h
end Go.Proofs.YtflckjabjhmnfaaGreatDoor
