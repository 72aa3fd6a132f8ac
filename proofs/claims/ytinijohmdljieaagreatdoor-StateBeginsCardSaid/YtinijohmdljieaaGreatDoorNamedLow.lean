/- package pass: named, word, the closures that ask for names; slices.ContainsFunc of strings. -/
import Derived.Test.YtinijohmdljieaaGreatDoorRune
import Derived.Test.YtinijohmdljieaaGreatDoorName
namespace Go.Proofs.YtinijohmdljieaaGreatDoor
open Go.RowKit

set_option maxHeartbeats 1000000 in
theorem pass_named1 (w : World) : PredGrows Tryz.prog 159 #[] (fun r => !nmR r) w := fun W r hr _ => by
  have hs := ContainsRune_signs r W
  show Calls Tryz.prog 159 #[.int .i32 r] W fun e w' => e = .returned (.bool (!nmR r)) ∧ Below W.heap.size W w'
  by_cases h1 : (97 ≤ r ∧ r ≤ 122) ∨ (48 ≤ r ∧ r ≤ 57)
  · have hn : nmR r = true := by simp [nmR]; omega
    rw [hn]
    clear hs hn hr
    go_enter Tryz.func159, Tryz.ntmps159
    go_wp2_with fail
    all_goals first
      | (exfalso; omega)
      | (go_ret; exact ⟨ret_bool (by simp <;> omega), Below.refl _ _⟩)
  · have hn : nmR r = sign r := by rw [Bool.eq_iff_iff]; simp [nmR, sign]; omega
    rw [hn]
    clear hn hr
    generalize sign r = b at hs
    go_enter Tryz.func159, Tryz.ntmps159
    go_wp2_with (go_at_call 100; refine hs.mono ?_; rintro e w1 ⟨rfl, hb⟩)
    all_goals first
      | (exfalso; omega)
      | (go_ret; exact ⟨ret_bool (by simp <;> omega), by assumption⟩)

set_option maxHeartbeats 1000000 in
theorem pass_named (s : ByteArray) (w : World) (hs : s.size ≤ maxLen) :
    Calls Tryz.prog 122 #[.string s] w fun e w' => e = .returned (.bool (named s.data.toList)) ∧ Below w.heap.size w w' := by
  unfold maxLen at hs
  have cF := fun W => Tryz.strings_ContainsFunc_grows 159 #[] (enters_of Tryz.func159 (by kernel_rfl) rfl) _ s W (pass_named1 W)
  simp only [idx_named_all] at cF
  by_cases h0 : 0 < s.size
  · by_cases h1 : s.size ≤ 32
    · rw [named_mid h0 h1]
      generalize s.data.toList.all nmB = b at *
      have g0 : decide (0 < (s.size : Int)) = true := decide_eq_true (by omega)
      have g1 : decide ((s.size : Int) ≤ 32) = true := decide_eq_true (by omega)
      go_enter Tryz.func122, Tryz.ntmps122
      go_wp2_with (go_at_call 98; refine (cF _).mono ?_; rintro e w2 ⟨rfl, hb2⟩)
      go_ret
      exact ⟨ret_bool (by simp), hb2⟩
    · rw [named_long h1]
      have g0 : decide (0 < (s.size : Int)) = true := decide_eq_true (by omega)
      have g1 : decide ((s.size : Int) ≤ 32) = false := decide_eq_false (by omega)
      clear cF
      go_enter Tryz.func122, Tryz.ntmps122
      go_wp2_with fail
      go_ret
      exact ⟨rfl, Below.refl _ _⟩
  · rw [named_zero h0]
    have g0 : decide (0 < (s.size : Int)) = false := decide_eq_false (by omega)
    clear cF
    go_enter Tryz.func122, Tryz.ntmps122
    go_wp2_with fail
    go_ret
    exact ⟨rfl, Below.refl _ _⟩
def wordN (n : Nat) : Bool := decide (0 < n) && decide (n ≤ 64)
theorem pass_word (s : ByteArray) (w : World) (hs : s.size ≤ maxLen) :
    Calls Tryz.prog 75 #[.string s] w fun e w' => e = .returned (.bool (wordN s.size)) ∧ w = w' := by
  unfold maxLen at hs
  by_cases h0 : 0 < s.size
  · by_cases h1 : s.size ≤ 64
    · have g0 : decide (0 < (s.size : Int)) = true := decide_eq_true (by omega)
      have g1 : decide ((s.size : Int) ≤ 64) = true := decide_eq_true (by omega)
      go_enter Tryz.func75, Tryz.ntmps75
      go_wp2_with fail
      go_ret
      exact ⟨ret_bool (by simp [wordN, h0, h1]), rfl⟩
    · have g0 : decide (0 < (s.size : Int)) = true := decide_eq_true (by omega)
      have g1 : decide ((s.size : Int) ≤ 64) = false := decide_eq_false (by omega)
      go_enter Tryz.func75, Tryz.ntmps75
      go_wp2_with fail
      go_ret
      exact ⟨ret_bool (by simp [wordN, h0]; omega), rfl⟩
  · have g0 : decide (0 < (s.size : Int)) = false := decide_eq_false (by omega)
    go_enter Tryz.func75, Tryz.ntmps75
    go_wp2_with fail
    go_ret
    exact ⟨ret_bool (by simp [wordN, h0]), rfl⟩
end Go.Proofs.YtinijohmdljieaaGreatDoor
