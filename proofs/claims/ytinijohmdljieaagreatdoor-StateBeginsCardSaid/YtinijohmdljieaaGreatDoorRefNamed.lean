/- docketref20.Named answers whether a text is a name. -/
import Derived.Test.YtinijohmdljieaaGreatDoorChecked
import Derived.Test.YtinijohmdljieaaGreatDoorName
namespace Go.Proofs.YtinijohmdljieaaGreatDoor
open Go.RowKit

set_option maxHeartbeats 1000000 in
theorem refNamed (s : ByteArray) (w : World) (hs : s.size ≤ maxLen) :
    Calls Tryz.prog 69 #[.string s] w fun e w' => e = .returned (.bool (named s.data.toList)) ∧ w = w' := by
  unfold maxLen at hs
  by_cases he : s.toList = []
  · go_enter Tryz.func69, Tryz.ntmps69
    go_wp2
    go_ret
    exact ⟨ret_bool (by rw [Go.ByteArray.toList_eq] at he; simp [named, he]), rfl⟩
  have hz : s.toList.isEmpty = false := by simpa using he
  by_cases hl : 32 < (s.size : Int)
  · go_enter Tryz.func69, Tryz.ntmps69
    go_wp2
    go_ret
    exact ⟨ret_bool (by simp [named]; omega), rfl⟩
  go_enter Tryz.func69, Tryz.ntmps69
  go_wp2
  go_loop [3] (fun i => ∃ k : Nat, k ≤ s.size ∧ i = .int .i64 k ∧ (s.data.toList.take k).all nmB = true) (fun i => s.size - (intOf i).toNat)
  case atStart => exact ⟨0, by omega, rfl, by simp⟩
  case round =>
    obtain ⟨k, hk, rfl, hall⟩ := hrel
    by_cases hlt : k < s.size
    · have Hall := Lib.hid hall; clear hall
      go_wp2
      all_goals first
        | (go_ret; exact ⟨ret_bool (by simp only [named]; rw [all_no hlt (nmB_no (by simp at *; omega))]; simp), rfl⟩)
        | (go_round
           case rel => exact ⟨k + 1, by omega, by go_num, all_snoc hlt Hall.out (nmB_yes (by simp at *; omega))⟩
           case measure => simp [intOf]; omega)
    · go_wp2
      go_ret
      exact ⟨ret_bool (by rw [named, all_end hlt hall, ba_len]; rw [Go.ByteArray.toList_eq] at hz; simp [hz]; omega), rfl⟩
end Go.Proofs.YtinijohmdljieaaGreatDoor
