/- Digits, plain; the reference's number, plain. -/
import Derived.Lib.AtoiAll
import Derived.Lib.ItoaNum
import Derived.Test.YtkmgbkcpjlilpaaDoorBase
namespace Go.Proofs.YtkmgbkcpjlilpaaDoor
open Go.RowKit

/-- a digit -/
def isDig (c : UInt8) : Prop := 48 ≤ c.toNat ∧ c.toNat ≤ 57
theorem dec_dig : ∀ (u : Nat), ∀ c ∈ Lib.decDigits u, isDig c := by
  intro u
  induction u using Nat.strongRecOn with
  | _ u ih =>
    intro c hc
    rw [Lib.decDigits] at hc
    split at hc
    · rename_i h
      simp at hc
      subst hc
      unfold isDig
      simp
      omega
    · rcases List.mem_append.1 hc with h1 | h1
      · exact ih (u / 10) (by omega) c h1
      · simp at h1
        subst h1
        unfold isDig
        simp
        omega
theorem dec_ne (u : Nat) : Lib.decDigits u ≠ [] := by
  intro h
  have h1 := Lib.decDigits_length u
  have h2 := Lib.nDigits_pos u
  rw [h] at h1
  simp at h1
  omega
/-- what digits spell -/
def spell (acc : Nat) : List UInt8 → Nat
  | [] => acc
  | c :: r => spell (acc * 10 + (c.toNat - 48)) r
theorem spell_append (ys : List UInt8) : ∀ (xs : List UInt8) (acc : Nat), spell acc (xs ++ ys) = spell (spell acc xs) ys
  | [], _ => rfl
  | _ :: r, _ => spell_append ys r _
theorem spell_ge : ∀ (l : List UInt8) (acc : Nat), acc ≤ spell acc l
  | [], _ => Nat.le_refl _
  | c :: r, acc => Nat.le_trans (by omega) (spell_ge r (acc * 10 + (c.toNat - 48)))
theorem spell_dec : ∀ (u : Nat), spell 0 (Lib.decDigits u) = u := by
  intro u
  induction u using Nat.strongRecOn with
  | _ u ih =>
    by_cases h : u < 10
    · rw [Lib.decDigits, dif_pos h]
      show 0 * 10 + ((UInt8.ofNat (48 + u)).toNat - 48) = u
      rw [UInt8.toNat_ofNat']
      omega
    · rw [Lib.decDigits, dif_neg h, spell_append, ih (u / 10) (by omega)]
      show u / 10 * 10 + ((UInt8.ofNat (48 + u % 10)).toNat - 48) = u
      rw [UInt8.toNat_ofNat']
      omega
theorem parse_spell : ∀ (l : List UInt8) (acc : Nat), (∀ c ∈ l, isDig c) → spell acc l < 9223372036854775808 → Lib.parseUint10 acc l = .ok (spell acc l)
  | [], _, _, _ => rfl
  | c :: r, acc, hd, hs => by
    have h1 := spell_ge r (acc * 10 + (c.toNat - 48))
    have h2 : spell acc (c :: r) = spell (acc * 10 + (c.toNat - 48)) r := rfl
    rw [h2] at hs ⊢
    rw [Lib.parseUint10, if_pos (show 48 ≤ c.toNat ∧ c.toNat ≤ 57 from hd c (List.mem_cons_self ..)), if_neg (by omega), if_neg (by omega)]
    exact parse_spell r _ (fun x hx => hd x (List.mem_cons_of_mem _ hx)) hs
theorem atoi_dec (u : Nat) (h : u < 9223372036854775808) : Lib.atoiAll (Lib.decDigits u) = .ok (u : Int) := by
  have hd := dec_dig u
  have hp := parse_spell (Lib.decDigits u) 0 hd (by rw [spell_dec]; exact h)
  rw [spell_dec] at hp
  have hne := dec_ne u
  generalize Lib.decDigits u = l at hd hp hne ⊢
  cases l with
  | nil => exact absurd rfl hne
  | cons c r =>
    obtain ⟨c1, c2⟩ := hd c (List.mem_cons_self ..)
    have e1 : ¬ c.toNat = 45 := by omega
    have e2 : ¬ (c.toNat = 43 ∨ c.toNat = 45) := by omega
    unfold Lib.atoiAll
    dsimp only
    rw [if_neg e2, Lib.parseMag, if_neg hne, hp]
    dsimp only
    rw [if_neg (by omega), if_neg (by omega), if_neg e1]
theorem dec_inj {u v : Nat} (h : Lib.decDigits u = Lib.decDigits v) : u = v := by
  rw [← spell_dec u, ← spell_dec v, h]

theorem dec_head : ∀ (u : Nat), 1 ≤ u → (Lib.decDigits u).head? ≠ some 48 := by
  intro u
  induction u using Nat.strongRecOn with
  | _ u ih =>
    intro h1
    by_cases h : u < 10
    · rw [Lib.decDigits, dif_pos h]
      intro he
      have he2 : UInt8.ofNat (48 + u) = 48 := by simpa using he
      have := congrArg UInt8.toNat he2
      rw [UInt8.toNat_ofNat'] at this
      have e : (48 : UInt8).toNat = 48 := rfl
      rw [e] at this
      omega
    · rw [Lib.decDigits, dif_neg h]
      have h2 := ih (u / 10) (by omega) (by omega)
      have h3 := dec_ne (u / 10)
      generalize Lib.decDigits (u / 10) = l at h2 h3 ⊢
      cases l with
      | nil => exact absurd rfl h3
      | cons c r => exact h2
theorem nd_le : ∀ (k u : Nat), u < 10 ^ (k + 1) → Lib.nDigits u ≤ k + 1
  | 0, u, h => by rw [Lib.nDigits_small (by simpa using h)]; omega
  | k + 1, u, h => by
    by_cases hu : u < 10
    · rw [Lib.nDigits_small hu]; omega
    · rw [Lib.nDigits_big hu]
      have := nd_le k (u / 10) (by rw [Nat.pow_succ] at h; omega)
      omega
def numberB (s : List UInt8) : Int := if s = [] ∨ 13 < s.length ∨ (s.head? = some 48 ∧ s ≠ [48]) then -1 else if s.all (fun c => decide (48 ≤ c.toNat ∧ c.toNat ≤ 57)) then (spell 0 s : Int) else -1
theorem number_dec (u : Nat) (h : u ≤ 1099511627776) : numberB (Lib.decDigits u) = u := by
  unfold numberB
  rw [if_neg, if_pos, spell_dec]
  · exact List.all_eq_true.2 fun c hc => by simpa [isDig] using dec_dig u c hc
  · rintro (h1 | h1 | ⟨h1, h2⟩)
    · exact dec_ne u h1
    · rw [Lib.decDigits_length] at h1
      have : Lib.nDigits u ≤ 13 := nd_le 12 u (by omega)
      omega
    · by_cases hz : u = 0
      · subst hz; exact h2 (by rw [Lib.decDigits_one (by omega)]; rfl)
      · exact dec_head u (by omega) h1
theorem ba_app (a b : List UInt8) : (⟨a.toArray⟩ : ByteArray) ++ ⟨b.toArray⟩ = ⟨(a ++ b).toArray⟩ := by
  rw [ByteArray.ext_iff, ByteArray.data_append]
  simp
theorem ret_str {a b : List UInt8} (h : a = b) : Ending.returned (.string ⟨a.toArray⟩) = Ending.returned (.string ⟨b.toArray⟩) := by rw [h]
theorem nDig_le : ∀ (k u : Nat), u < 10 ^ (k + 1) → Lib.nDigits u ≤ k + 1
  | 0, u, h => by rw [Lib.nDigits_small (by simpa using h)]; omega
  | k + 1, u, h => by
    by_cases hu : u < 10
    · rw [Lib.nDigits_small hu]; omega
    · rw [Lib.nDigits_big hu]
      have := nDig_le k (u / 10) (by rw [Nat.pow_succ] at h; omega)
      omega
theorem decLen (u : Nat) (h : u < 9223372036854775808) : (Lib.decDigits u).length ≤ 20 := by
  rw [Lib.decDigits_length]
  exact nDig_le 19 u (by omega)

end Go.Proofs.YtkmgbkcpjlilpaaDoor
