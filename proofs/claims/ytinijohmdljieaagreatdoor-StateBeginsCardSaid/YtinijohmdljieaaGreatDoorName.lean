/- What a name is; plain facts on texts as runes. -/
import Derived.Test.YtinijohmdljieaaGreatDoorBase
import Derived.Shelf.GgClosure.StringsIndexFunc
import Derived.Lib.SlTrimSet
namespace Go.Proofs.YtinijohmdljieaaGreatDoor
open Go.RowKit

def nmB (c : UInt8) : Bool := (97 ≤ c.toNat && c.toNat ≤ 122) || (48 ≤ c.toNat && c.toNat ≤ 57) || c.toNat == 45 || c.toNat == 95 || c.toNat == 46
def nmR (r : Nat) : Bool := (97 ≤ r && r ≤ 122) || (48 ≤ r && r ≤ 57) || r == 45 || r == 95 || r == 46
def named (s : List UInt8) : Bool := !s.isEmpty && s.length ≤ 32 && s.all nmB

theorem nmB_yes {c : UInt8} (h : (97 ≤ (c.toNat : Int) ∧ (c.toNat : Int) ≤ 122) ∨ (48 ≤ (c.toNat : Int) ∧ (c.toNat : Int) ≤ 57) ∨ (c.toNat : Int) = 45 ∨ (c.toNat : Int) = 95 ∨ (c.toNat : Int) = 46) : nmB c = true := by
  simp [nmB]; omega
theorem nmB_no {c : UInt8} (h : ¬ ((97 ≤ (c.toNat : Int) ∧ (c.toNat : Int) ≤ 122) ∨ (48 ≤ (c.toNat : Int) ∧ (c.toNat : Int) ≤ 57) ∨ (c.toNat : Int) = 45 ∨ (c.toNat : Int) = 95 ∨ (c.toNat : Int) = 46)) : nmB c = false := by
  simp [nmB]; omega
theorem nmR_big {r : Nat} (h : 128 ≤ r) : nmR r = false := by simp [nmR]; omega

/-- a byte beyond ASCII opens a rune beyond ASCII -/
theorem decode_big (s : ByteArray) (i : Nat) (h : 128 ≤ (s.get! i).toNat) : 128 ≤ (Utf8.decode s i).1 := by
  have h0 : ¬ ((s.get! (i + 0)).toNat < 128) := by simpa using Nat.not_lt.2 h
  unfold Utf8.decode
  simp only [h0, if_false]
  repeat' split
  all_goals simp_all [Utf8.runeError]
  all_goals omega
theorem decode_small (s : ByteArray) (i : Nat) (h : (s.get! i).toNat < 128) : Utf8.decode s i = ((s.get! i).toNat, 1) := by
  have h0 : ((s.get! (i + 0)).toNat < 128) := by simpa using h
  unfold Utf8.decode
  simp only [h0, if_true]
  rfl
theorem get!_eq (s : ByteArray) (i : Nat) (h : i < s.size) : s.get! i = s[i] := by
  simp [ByteArray.get!, ByteArray.getElem_eq_getElem_data, getElem!_pos, h]

/-- no rune is found that is not of a name's: just where each byte is a name's -/
theorem idx_named (s : ByteArray) : ∀ (f pos : Nat), s.size ≤ pos + f → decide (0 ≤ Lib.idxFuncFrom (fun r => !nmR r) true s f pos) = !((s.data.toList.drop pos).all nmB)
  | 0, pos, h => by
    rw [List.drop_of_length_le (by rw [ba_len]; omega)]
    rfl
  | f + 1, pos, h => by
    unfold Lib.idxFuncFrom
    by_cases hp : pos < s.size
    · have hd : s.data.toList.drop pos = s[pos] :: s.data.toList.drop (pos + 1) := by
        rw [List.drop_eq_getElem_cons (by rw [ba_len]; exact hp)]; rfl
      rw [if_pos hp, hd, List.all_cons]
      by_cases hb : (s.get! pos).toNat < 128
      · rw [decode_small s pos hb]
        have hn : nmR (s.get! pos).toNat = nmB s[pos] := by rw [get!_eq s pos hp]; rfl
        dsimp only
        rw [hn]
        cases hc : nmB s[pos]
        · simp
        · simp only [Bool.not_true, Bool.false_eq_true, if_false, Bool.true_and]
          exact idx_named s f (pos + 1) (by omega)
      · have h1 := nmR_big (decode_big s pos (by omega))
        have h2 : nmB s[pos] = false := by
          rw [← get!_eq s pos hp]
          exact nmR_big (by omega)
        rw [h1, h2]; simp
    · rw [if_neg hp, List.drop_of_length_le (by rw [ba_len]; omega)]
      rfl

theorem idx_named_all (s : ByteArray) : decide (0 ≤ Lib.idxFunc (fun r => !nmR r) true s) = !(s.data.toList.all nmB) :=
  idx_named s s.size 0 (by omega)

def nameSigns : List UInt8 := [97, 98, 99, 100, 101, 102, 103, 104, 105, 106, 107, 108, 109, 110, 111, 112, 113, 114, 115, 116, 117, 118, 119, 120, 121, 122, 48, 49, 50, 51, 52, 53, 54, 55, 56, 57, 45, 95, 46]
theorem nameSigns_iff (c : UInt8) : nameSigns.contains c = nmB c := by
  have : ∀ n, n < 256 → nameSigns.contains (UInt8.ofNat n) = nmB (UInt8.ofNat n) := by decide +kernel
  have h := this c.toNat c.toNat_lt
  simpa using h
theorem dropWhile_all {p : UInt8 → Bool} : ∀ l : List UInt8, (l.dropWhile p).all p = l.all p
  | [] => rfl
  | b :: l => by
    cases h : p b
    · simp [List.dropWhile, h]
    · simp [List.dropWhile, h, dropWhile_all l]
theorem dropWhile_nil {p : UInt8 → Bool} : ∀ l : List UInt8, (l.dropWhile p).isEmpty = l.all p
  | [] => rfl
  | b :: l => by
    cases h : p b
    · simp [List.dropWhile, h]
    · simp [List.dropWhile, h, dropWhile_nil l]
theorem trim_named (l : List UInt8) : (Lib.trimS l nameSigns).isEmpty = l.all nmB := by
  have hp : (fun c => nameSigns.contains c) = nmB := funext nameSigns_iff
  unfold Lib.trimS Lib.trimLeftS Lib.trimRightS
  rw [hp, dropWhile_nil, List.all_reverse, dropWhile_all, List.all_reverse]
theorem named_zero {s : ByteArray} (h : ¬ 0 < s.size) : named s.data.toList = false := by
  have : s.data.toList = [] := List.eq_nil_of_length_eq_zero (by rw [ba_len]; omega)
  simp [named, this]
theorem named_long {s : ByteArray} (h : ¬ s.size ≤ 32) : named s.data.toList = false := by
  have : decide (s.data.toList.length ≤ 32) = false := by rw [ba_len]; simp; omega
  rw [named, this]; simp
theorem named_mid {s : ByteArray} (h0 : 0 < s.size) (h : s.size ≤ 32) : named s.data.toList = s.data.toList.all nmB := by
  have h1 : decide (s.data.toList.length ≤ 32) = true := by rw [ba_len]; simp; omega
  have h2 : s.data.toList.isEmpty = false := by
    cases hl : s.data.toList
    · have := ba_len s; rw [hl] at this; simp at this; omega
    · rfl
  rw [named, h1, h2]; simp
end Go.Proofs.YtinijohmdljieaaGreatDoor
