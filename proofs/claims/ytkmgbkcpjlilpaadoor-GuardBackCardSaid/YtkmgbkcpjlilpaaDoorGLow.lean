/- package guard: letter, quoted, taken, named; strings.TrimLeft at digits, strconv.ParseInt at digits. -/
import Derived.Lib.ParseIntB
import Derived.Lib.SlicesS
import Derived.Shelf.Strings.SlTrimAscii
import Derived.Shelf.Strings.FuncGrows
import Derived.Test.YtkmgbkcpjlilpaaDoorShelf
import Derived.Test.YtkmgbkcpjlilpaaDoorName
import Derived.Test.YtkmgbkcpjlilpaaDoorGMem
namespace Go.Proofs.YtkmgbkcpjlilpaaDoor
open Go.RowKit

theorem u8_all {p : UInt8 → Prop} (h : ∀ n : Fin 256, p (UInt8.ofNat n.val)) (c : UInt8) : p c := by
  have := h ⟨c.toNat, c.toNat_lt⟩
  simpa using this
theorem letter_walk (c : UInt8) (w : World) : Calls Tryd.prog 26 #[.int .u8 (c.toNat : Int)] w fun e w' => e = .returned (.bool (letterB c)) ∧ w = w' := by
  obtain ⟨n, hn⟩ : ∃ n, c.toNat = n := ⟨_, rfl⟩
  have e : letterB c = (decide (97 ≤ n ∧ n ≤ 122) || decide (48 ≤ n ∧ n ≤ 57) || decide (n = 45) || decide (n = 95) || decide (n = 46)) := by
    have h : ∀ k : UInt8, (c == k) = decide (n = k.toNat) := fun k => by
      rw [Bool.eq_iff_iff, beq_iff_eq, decide_eq_true_eq, ← hn]
      exact UInt8.toNat_inj.symm
    rw [letterB, hn, h, h, h]; rfl
  have hn2 : n < 256 := by have := c.toNat_lt; omega
  rw [hn, e]
  clear e hn
  go_enter Tryd.func26, Tryd.ntmps26
  go_wp2
  all_goals (go_ret; exact ⟨ret_bool (by first | rfl | (rw [Bool.eq_iff_iff]; simp <;> omega)), rfl⟩)

def quotR (r : Nat) : Bool := decide (32 ≤ r) && decide (r ≤ 126) && decide (r ≠ 39)
def letR (r : Nat) : Bool := decide (r < 128) && letterB (UInt8.ofNat r)
theorem quot_eq (c : UInt8) : quotB c = quotR c.toNat := by
  refine u8_all (p := fun c => quotB c = quotR c.toNat) ?_ c
  decide +kernel
theorem let_eq (c : UInt8) : letterB c = letR c.toNat := by
  refine u8_all (p := fun c => letterB c = letR c.toNat) ?_ c
  decide +kernel
/-- no rune is found that is not of a kind: just where each byte is of it -/
theorem idx_any {pR : Nat → Bool} {pB : UInt8 → Bool} (hp : ∀ c : UInt8, pB c = pR c.toNat) (hbig : ∀ r, 128 ≤ r → pR r = false) (s : ByteArray) : ∀ (f pos : Nat), s.size ≤ pos + f → decide (0 ≤ Lib.idxFuncFrom (fun r => !pR r) true s f pos) = !((s.data.toList.drop pos).all pB)
  | 0, pos, h => by
    rw [List.drop_of_length_le (by rw [ba_len]; omega)]
    rfl
  | f + 1, pos, h => by
    unfold Lib.idxFuncFrom
    by_cases hq : pos < s.size
    · have hd : s.data.toList.drop pos = s[pos] :: s.data.toList.drop (pos + 1) := by
        rw [List.drop_eq_getElem_cons (by rw [ba_len]; exact hq)]; rfl
      rw [if_pos hq, hd, List.all_cons]
      by_cases hb : (s.get! pos).toNat < 128
      · rw [decode_small s pos hb]
        have hn : pR (s.get! pos).toNat = pB s[pos] := by rw [get!_eq s pos hq, hp]
        dsimp only
        rw [hn]
        cases hc : pB s[pos]
        · simp
        · simp only [Bool.not_true, Bool.false_eq_true, if_false, Bool.true_and]
          exact idx_any hp hbig s f (pos + 1) (by omega)
      · have h1 := hbig _ (decode_big s pos (by omega))
        have h2 : pB s[pos] = false := by
          rw [hp, ← get!_eq s pos hq]
          exact hbig _ (by omega)
        rw [h1, h2]; simp
    · rw [if_neg hq, List.drop_of_length_le (by rw [ba_len]; omega)]
      rfl
theorem idx_neg {pR : Nat → Bool} {pB : UInt8 → Bool} (hp : ∀ c : UInt8, pB c = pR c.toNat) (hbig : ∀ r, 128 ≤ r → pR r = false) (s : ByteArray) : decide (Lib.idxFunc (fun r => !pR r) true s < 0) = s.data.toList.all pB := by
  have h := idx_any hp hbig s s.size 0 (by omega)
  rw [List.drop_zero] at h
  have h2 : decide (Lib.idxFunc (fun r => !pR r) true s < 0) = !decide (0 ≤ Lib.idxFunc (fun r => !pR r) true s) := by
    rw [Bool.eq_iff_iff]; simp
  rw [h2]
  show (!decide (0 ≤ Lib.idxFuncFrom (fun r => !pR r) true s s.size 0)) = _
  rw [h]; simp

set_option maxHeartbeats 1000000 in
theorem quoted1_walk (w : World) : PredGrows Tryd.prog 42 #[] (fun r => !quotR r) w := fun W r hr _ => by
  show Calls Tryd.prog 42 #[.int .i32 r] W fun e w' => e = .returned (.bool (!quotR r)) ∧ Below W.heap.size W w'
  have e : (!quotR r) = (decide ((r : Int) < 32) || decide ((126 : Int) < r) || decide ((r : Int) = 39)) := by
    rw [Bool.eq_iff_iff]; simp [quotR] <;> omega
  rw [e]
  clear e
  go_enter Tryd.func42, Tryd.ntmps42
  go_wp2
  all_goals (go_ret; exact ⟨ret_bool (by first | rfl | (rw [Bool.eq_iff_iff]; simp <;> omega)), Below.refl _ _⟩)
theorem quoted_walk (s : ByteArray) (w : World) : Calls Tryd.prog 25 #[.string s] w fun e w' => e = .returned (.bool (s.data.toList.all quotB)) ∧ Below w.heap.size w w' := by
  have hc := Tryd.strings_IndexFunc_grows 42 #[] (enters_of Tryd.func42 (by kernel_rfl) rfl) _ s w (quoted1_walk w)
  have hi := idx_neg quot_eq (fun r h => by simp [quotR] <;> omega) s
  obtain ⟨b, hb⟩ : ∃ b, s.data.toList.all quotB = b := ⟨_, rfl⟩
  rw [hb] at hi ⊢
  generalize Lib.idxFunc (fun r => !quotR r) true s = x at *
  clear hb
  go_enter Tryd.func25, Tryd.ntmps25
  go_wp2_with (go_at_call 41; refine hc.mono ?_; rintro e w2 ⟨rfl, hb2⟩)
  go_ret
  exact ⟨rfl, hb2⟩

set_option maxHeartbeats 1000000 in
theorem named1_walk (w : World) : PredGrows Tryd.prog 64 #[] (fun r => !letR r) w := fun W r hr _ => by
  show Calls Tryd.prog 64 #[.int .i32 r] W fun e w' => e = .returned (.bool (!letR r)) ∧ Below W.heap.size W w'
  by_cases h : r < 128
  · have hl := letter_walk (UInt8.ofNat r)
    have hrn : (UInt8.ofNat r).toNat = r := by rw [UInt8.toNat_ofNat']; omega
    have e : letR r = letterB (UInt8.ofNat r) := by simp [letR, h]
    have wr : IntKind.u8.wrap (r : Int) = (r : Int) := by rw [IntKind.wrap_u8]; omega
    rw [hrn] at hl
    rw [e]
    generalize letterB (UInt8.ofNat r) = b at *
    have d : ¬ (127 : Int) < r := by omega
    clear hrn e hr h
    go_enter Tryd.func64, Tryd.ntmps64
    go_wp2_with (go_at_call 26; refine (hl _).mono ?_; rintro e w2 ⟨rfl, rfl⟩)
    go_ret
    exact ⟨rfl, Below.refl _ _⟩
  · have e : letR r = false := by simp [letR, h]
    rw [e]
    have d : (127 : Int) < r := by omega
    clear e hr h
    go_enter Tryd.func64, Tryd.ntmps64
    go_wp2
    go_ret
    exact ⟨rfl, Below.refl _ _⟩
theorem taken_walk (s : ByteArray) (w : World) : Calls Tryd.prog 63 #[.string s] w fun e w' => e = .returned (.bool (takenB s)) ∧ Below w.heap.size w w' := by
  have hc := Tryd.slices_Contains_string w.heap.size 0 7 7 [andS, orS, notS, trueS, falseS, openS, doneS] s (w.alloc (.cells #[.string andS, .string orS, .string notS, .string trueS, .string falseS, .string openS, .string doneS] 9)) (by simp) (by omega) (fun j hj => by
    match j, hj with
    | 0, _ => go_simp
    | 1, _ => go_simp
    | 2, _ => go_simp
    | 3, _ => go_simp
    | 4, _ => go_simp
    | 5, _ => go_simp
    | 6, _ => go_simp)
  have e : Lib.containsS ([andS, orS, notS, trueS, falseS, openS, doneS].take 7) s = takenB s := by
    rw [Bool.eq_iff_iff, Lib.containsS_iff, takenB, decide_eq_true_eq]
    simp
  rw [e] at hc
  generalize takenB s = b at *
  go_enter Tryd.func63, Tryd.ntmps63
  go_wp2_with (go_at_call 74; refine hc.mono ?_; rintro e w2 ⟨rfl, rfl⟩)
  go_ret
  exact ⟨rfl, (Below.refl _ _).alloc (Nat.le_refl _) _⟩

/-- digits, parsed -/
theorem parse_digits : ∀ (l : List UInt8) (acc : Nat), l.all digitB = true → acc ≤ 18446744073709551615 → Lib.parseUintM 18446744073709551615 acc l = if spell acc l ≤ 18446744073709551615 then Lib.NumEnd.ok (spell acc l) else Lib.NumEnd.range
  | [], acc, _, h => by rw [Lib.parseUintM]; show _ = if acc ≤ _ then Lib.NumEnd.ok acc else _; rw [if_pos h]
  | c :: r, acc, hd, h => by
    simp only [List.all_cons, Bool.and_eq_true] at hd
    have hc : 48 ≤ c.toNat ∧ c.toNat ≤ 57 := by simpa [digitB] using hd.1
    have hs : spell acc (c :: r) = spell (acc * 10 + (c.toNat - 48)) r := rfl
    have hg := spell_ge r (acc * 10 + (c.toNat - 48))
    rw [Lib.parseUintM, if_pos hc, hs]
    by_cases h1 : 1844674407370955162 ≤ acc
    · rw [if_pos h1, if_neg (by omega)]
    · rw [if_neg h1]
      by_cases h2 : 18446744073709551615 < acc * 10 + (c.toNat - 48)
      · rw [if_pos h2, if_neg (by omega)]
      · rw [if_neg h2]
        exact parse_digits r _ hd.2 (by omega)
theorem parseInt_digits {l : List UInt8} (hne : l ≠ []) (hd : l.all digitB = true) : Lib.parseIntB 64 l = if spell 0 l ≤ 9223372036854775807 then Lib.NumEnd.ok (spell 0 l : Int) else Lib.NumEnd.range := by
  cases l with
  | nil => exact absurd rfl hne
  | cons c r =>
    have hc : 48 ≤ c.toNat ∧ c.toNat ≤ 57 := by
      simp only [List.all_cons, Bool.and_eq_true] at hd
      simpa [digitB] using hd.1
    have hp := parse_digits (c :: r) 0 hd (by omega)
    unfold Lib.parseIntB
    dsimp only
    rw [if_neg (by omega), Lib.parseUintB, if_neg (by simp), show 2 ^ 64 - 1 = 18446744073709551615 by rfl, hp]
    by_cases h1 : spell 0 (c :: r) ≤ 18446744073709551615
    · rw [if_pos h1]
      dsimp only
      by_cases h2 : spell 0 (c :: r) ≤ 9223372036854775807
      · rw [if_neg (by omega), if_neg (by omega), if_neg (by omega), if_pos h2]
      · rw [if_pos ⟨by omega, by omega⟩, if_neg h2]
    · rw [if_neg h1, if_neg (by omega)]
end Go.Proofs.YtkmgbkcpjlilpaaDoor
