/- roles.named answers whether a text is a name. -/
import Derived.Test.YtinijohmdljieaaGreatDoorRune
import Derived.Test.YtinijohmdljieaaGreatDoorName
import Derived.Shelf.Strings.SlTrimAscii
namespace Go.Proofs.YtinijohmdljieaaGreatDoor
open Go.RowKit

set_option maxHeartbeats 1000000 in
theorem roles_named1 (w : World) : PredGrows Tryz.prog 99 #[] (fun r => !nmR r) w := fun W r hr _ => by
  have hs := ContainsRune_signs r W
  show Calls Tryz.prog 99 #[.int .i32 r] W fun e w' => e = .returned (.bool (!nmR r)) ∧ Below W.heap.size W w'
  by_cases h1 : (97 ≤ r ∧ r ≤ 122) ∨ (48 ≤ r ∧ r ≤ 57)
  · have hn : nmR r = true := by simp [nmR]; omega
    rw [hn]
    clear hs hn hr
    go_enter Tryz.func99, Tryz.ntmps99
    go_wp2_with fail
    all_goals first
      | (exfalso; omega)
      | (go_ret; exact ⟨ret_bool (by simp <;> omega), Below.refl _ _⟩)
  · have hn : nmR r = sign r := by rw [Bool.eq_iff_iff]; simp [nmR, sign]; omega
    rw [hn]
    clear hn hr
    generalize sign r = b at hs
    go_enter Tryz.func99, Tryz.ntmps99
    go_wp2_with (go_at_call 100; refine hs.mono ?_; rintro e w1 ⟨rfl, hb⟩)
    all_goals first
      | (exfalso; omega)
      | (go_ret; exact ⟨ret_bool (by simp <;> omega), by assumption⟩)

set_option maxHeartbeats 1000000 in
theorem roles_named (s : ByteArray) (w : World) (hs : s.size ≤ maxLen) :
    Calls Tryz.prog 53 #[.string s] w fun e w' => e = .returned (.bool (named s.data.toList)) ∧ Below w.heap.size w w' := by
  unfold maxLen at hs
  have cT := fun W => Any.strings_Trim_laid Tryz.lays160 (by kernel_rfl) s ⟨#[97, 98, 99, 100, 101, 102, 103, 104, 105, 106, 107, 108, 109, 110, 111, 112, 113, 114, 115, 116, 117, 118, 119, 120, 121, 122, 48, 49, 50, 51, 52, 53, 54, 55, 56, 57, 45, 95, 46]⟩ W (by omega) (by decide) (ascii_of_all (by decide))
  have cF := fun W => Tryz.strings_ContainsFunc_grows 99 #[] (enters_of Tryz.func99 (by kernel_rfl) rfl) _ s W (roles_named1 W)
  simp only [idx_named_all] at cF
  have ht := trim_named s.data.toList
  change ∀ W, Calls Tryz.prog 97 _ W _ at cT
  have he : (⟨#[97, 98, 99, 100, 101, 102, 103, 104, 105, 106, 107, 108, 109, 110, 111, 112, 113, 114, 115, 116, 117, 118, 119, 120, 121, 122, 48, 49, 50, 51, 52, 53, 54, 55, 56, 57, 45, 95, 46]⟩ : ByteArray).data.toList = nameSigns := rfl
  rw [he] at cT
  generalize Lib.trimS s.data.toList nameSigns = t at ht cT
  clear he
  by_cases h0 : 0 < s.size
  · by_cases h1 : s.size ≤ 32
    · rw [named_mid h0 h1]
      generalize s.data.toList.all nmB = b at *
      have g0 : decide (0 < (s.size : Int)) = true := decide_eq_true (by omega)
      have g1 : decide ((s.size : Int) ≤ 32) = true := decide_eq_true (by omega)
      have Ht := Lib.hid ht; clear ht
      cases b
      · go_enter Tryz.func53, Tryz.ntmps53
        go_wp2_with (first | (go_at_call 97; refine (cT _).mono ?_; rintro e w1 ⟨rfl, hb⟩) | (go_at_call 98; refine (cF _).mono ?_; rintro e w2 ⟨rfl, hb2⟩))
        · exact absurd (Ht.out) (by simp [*])
        · go_ret
          exact ⟨rfl, hb⟩
      · go_enter Tryz.func53, Tryz.ntmps53
        go_wp2_with (first | (go_at_call 97; refine (cT _).mono ?_; rintro e w1 ⟨rfl, hb⟩) | (go_at_call 98; refine (cF _).mono ?_; rintro e w2 ⟨rfl, hb2⟩))
        · go_ret
          exact ⟨rfl, hb.trans (hb2.mono hb.size)⟩
        · exact absurd (Ht.out) (by simp [*])
    · rw [named_long h1]
      have g0 : decide (0 < (s.size : Int)) = true := decide_eq_true (by omega)
      have g1 : decide ((s.size : Int) ≤ 32) = false := decide_eq_false (by omega)
      clear cT cF ht
      go_enter Tryz.func53, Tryz.ntmps53
      go_wp2_with fail
      go_ret
      exact ⟨rfl, Below.refl _ _⟩
  · rw [named_zero h0]
    have g0 : decide (0 < (s.size : Int)) = false := decide_eq_false (by omega)
    clear cT cF ht
    go_enter Tryz.func53, Tryz.ntmps53
    go_wp2_with fail
    go_ret
    exact ⟨rfl, Below.refl _ _⟩
end Go.Proofs.YtinijohmdljieaaGreatDoor
