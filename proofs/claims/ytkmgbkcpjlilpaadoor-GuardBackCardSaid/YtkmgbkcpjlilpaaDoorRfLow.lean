/- docketref17: Letter, Taken, Named, quotable. -/
import Derived.Test.YtkmgbkcpjlilpaaDoorChecked
import Derived.Test.YtkmgbkcpjlilpaaDoorGLow
namespace Go.Proofs.YtkmgbkcpjlilpaaDoor
open Go.RowKit

theorem rfLetter_walk (c : UInt8) (w : World) : Calls Tryd.prog 47 #[.int .u8 (c.toNat : Int)] w fun e w' => e = .returned (.bool (letterB c)) ∧ w = w' := by
  obtain ⟨n, hn⟩ : ∃ n, c.toNat = n := ⟨_, rfl⟩
  have e : letterB c = (decide (97 ≤ n ∧ n ≤ 122) || decide (48 ≤ n ∧ n ≤ 57) || decide (n = 45) || decide (n = 95) || decide (n = 46)) := by
    have h : ∀ k : UInt8, (c == k) = decide (n = k.toNat) := fun k => by
      rw [Bool.eq_iff_iff, beq_iff_eq, decide_eq_true_eq, ← hn]
      exact UInt8.toNat_inj.symm
    rw [letterB, hn, h, h, h]; rfl
  have hn2 : n < 256 := by have := c.toNat_lt; omega
  rw [hn, e]
  clear e hn
  go_enter Tryd.func47, Tryd.ntmps47
  go_wp2
  all_goals (go_ret; exact ⟨ret_bool (by first | rfl | (rw [Bool.eq_iff_iff]; simp <;> omega)), rfl⟩)
set_option maxHeartbeats 1000000 in
theorem rfQuot_walk (s : ByteArray) (w : World) (hs : s.size ≤ maxLen) :
    Calls Tryd.prog 46 #[.string s] w fun e w' => e = .returned (.bool (s.data.toList.all quotB)) ∧ w = w' := by
  unfold maxLen at hs
  obtain ⟨R, hR⟩ : ∃ R, s.data.toList.all quotB = R := ⟨_, rfl⟩
  rw [hR]
  have HR := Lib.hid hR
  clear hR
  go_enter Tryd.func46, Tryd.ntmps46
  go_wp2
  go_loop [3] (fun i => ∃ k : Nat, k ≤ s.size ∧ i = .int .i64 k ∧ (s.data.toList.take k).all quotB = true) (fun i => s.size - (intOf i).toNat)
  case atStart => exact ⟨0, by omega, rfl, by simp⟩
  case round =>
    obtain ⟨k, hk, rfl, hall⟩ := hrel
    by_cases hlt : k < s.size
    · have Hall := Lib.hid hall; clear hall
      have HQ := Lib.hid (quot_eq (s[k]'hlt))
      obtain ⟨c, hc⟩ : ∃ c, (s[k]'hlt).toNat = c := ⟨_, rfl⟩
      rw [hc] at HQ
      have HC := Lib.hid hc
      go_wp2
      all_goals first
        | (go_ret; exact ⟨ret_bool (by rw [← HR.out, all_no hlt (by rw [HQ.out]; simp only [quotR]; simp at *; omega)]), rfl⟩)
        | (go_round
           case rel => exact ⟨k + 1, by omega, by go_num, all_snoc hlt Hall.out (by rw [HQ.out]; simp only [quotR]; simp at *; omega)⟩
           case measure => simp [intOf]; omega)
    · go_wp2
      go_ret
      exact ⟨ret_bool (by rw [← HR.out, all_end hlt hall]), rfl⟩
theorem takenB_list (s : ByteArray) : takenB s = ((s.toList == [97, 110, 100]) || (s.toList == [111, 114]) || (s.toList == [110, 111, 116]) || (s.toList == [116, 114, 117, 101]) || (s.toList == [102, 97, 108, 115, 101]) || (s.toList == [111, 112, 101, 110]) || (s.toList == [100, 111, 110, 101])) := by
  have h : takenB s = ((s.toList == andS.toList) || (s.toList == orS.toList) || (s.toList == notS.toList) || (s.toList == trueS.toList) || (s.toList == falseS.toList) || (s.toList == openS.toList) || (s.toList == doneS.toList)) := by
    simp only [ba_eq]
    rw [takenB, Bool.eq_iff_iff]
    simp only [Bool.or_eq_true, decide_eq_true_eq, or_assoc]
  rw [h]
  simp only [Go.ByteArray.toList_eq]
set_option maxHeartbeats 1000000 in
theorem rfTaken_walk (s : ByteArray) (w : World) :
    Calls Tryd.prog 97 #[.string s] w fun e w' => e = .returned (.bool (takenB s)) ∧ w = w' := by
  rw [takenB_list]
  obtain ⟨l, hl⟩ : ∃ l, s.toList = l := ⟨_, rfl⟩
  rw [hl]
  go_enter Tryd.func97, Tryd.ntmps97
  go_wp2
  all_goals (go_ret; exact ⟨ret_bool (by simp_all), rfl⟩)
set_option maxHeartbeats 1000000 in
theorem rfNamed_walk (s : ByteArray) (w : World) (hs : s.size ≤ maxLen) :
    Calls Tryd.prog 91 #[.string s] w fun e w' => e = .returned (.bool (namedG s)) ∧ w = w' := by
  unfold maxLen at hs
  obtain ⟨R, hR⟩ : ∃ R, namedG s = R := ⟨_, rfl⟩
  rw [hR]
  have HT := Lib.hid (rfTaken_walk s)
  obtain ⟨T, hT⟩ : ∃ T, takenB s = T := ⟨_, rfl⟩
  rw [hT] at HT
  rw [namedG, hT] at hR
  by_cases he : s.toList = []
  · have h0 : s.size = 0 := by rw [Go.ByteArray.toList_eq] at he; rw [← ba_len, he]; rfl
    have HR : Hid (R = false) := by show _ = _; rw [← hR, decide_eq_false (by omega)]; rfl
    clear hR hT HT
    go_enter Tryd.func91, Tryd.ntmps91
    go_wp2
    go_ret
    exact ⟨ret_bool HR.out.symm, rfl⟩
  have h0 : 0 < s.size := by
    rcases Nat.eq_zero_or_pos s.size with h | h
    · exact absurd (by rw [Go.ByteArray.toList_eq]; exact List.eq_nil_of_length_eq_zero h) he
    · exact h
  have hz : s.toList.isEmpty = false := by simpa using he
  have i0 : (0 : Int) < (s.size : Int) := by omega
  rw [decide_eq_true h0] at hR
  by_cases hl : 32 < (s.size : Int)
  · have HR : Hid (R = false) := by show _ = _; rw [← hR, decide_eq_false (by omega)]; rfl
    clear hR hT HT
    go_enter Tryd.func91, Tryd.ntmps91
    go_wp2
    go_ret
    exact ⟨ret_bool HR.out.symm, rfl⟩
  rw [decide_eq_true (show s.size ≤ 32 by omega)] at hR
  obtain ⟨c, hc⟩ : ∃ c, (s[0]'h0).toNat = c := ⟨_, rfl⟩
  have hhd : (s.data.toList.headD 0).toNat = c := by
    rw [← hc]
    have : s.data.toList = s[0] :: s.data.toList.drop 1 := by
      rw [← List.drop_zero (l := s.data.toList), List.drop_eq_getElem_cons (by rw [ba_len]; omega)]; rfl
    rw [this]; rfl
  rw [hhd] at hR
  have HC := Lib.hid hc
  by_cases hlo : (c : Int) < 97
  · have HR : Hid (R = false) := by show _ = _; rw [← hR, decide_eq_false (show ¬ (97 ≤ c ∧ c ≤ 122) by omega)]; rfl
    clear hR hT HT hhd
    go_enter Tryd.func91, Tryd.ntmps91
    go_wp2
    go_ret
    exact ⟨ret_bool HR.out.symm, rfl⟩
  by_cases hhi : 122 < (c : Int)
  · have HR : Hid (R = false) := by show _ = _; rw [← hR, decide_eq_false (show ¬ (97 ≤ c ∧ c ≤ 122) by omega)]; rfl
    clear hR hT HT hhd
    go_enter Tryd.func91, Tryd.ntmps91
    go_wp2
    go_ret
    exact ⟨ret_bool HR.out.symm, rfl⟩
  rw [decide_eq_true (show 97 ≤ c ∧ c ≤ 122 by omega)] at hR
  cases T with
  | true =>
    have HR : Hid (R = false) := by show _ = _; rw [← hR]; rfl
    clear hR hT hhd
    go_enter Tryd.func91, Tryd.ntmps91
    go_wp2_with (go_at_call 97; refine (HT.out _).mono ?_; rintro e w2 ⟨rfl, rfl⟩)
    go_ret
    exact ⟨ret_bool HR.out.symm, rfl⟩
  | false =>
    have HR : Hid (R = s.data.toList.all letterB) := by show _ = _; rw [← hR]; rfl
    have HLW := Lib.hid rfLetter_walk
    clear hR hT hhd
    go_enter Tryd.func91, Tryd.ntmps91
    go_wp2_with (go_at_call 97; refine (HT.out _).mono ?_; rintro e w2 ⟨rfl, rfl⟩)
    go_loop [3] (fun i => ∃ k : Nat, k ≤ s.size ∧ i = .int .i64 k ∧ (s.data.toList.take k).all letterB = true) (fun i => s.size - (intOf i).toNat)
    case atStart => exact ⟨0, by omega, rfl, by simp⟩
    case round =>
      obtain ⟨k, hk, rfl, hall⟩ := hrel
      by_cases hlt : k < s.size
      · have Hall := Lib.hid hall; clear hall
        have HLK := Lib.hid (HLW.out (s[k]'hlt))
        obtain ⟨b, hb⟩ : ∃ b, letterB (s[k]'hlt) = b := ⟨_, rfl⟩
        rw [hb] at HLK
        have HB := Lib.hid hb
        clear hb
        cases b with
        | false =>
          go_wp2_with (go_at_call 47; refine (HLK.out _).mono ?_; rintro e w2 ⟨rfl, rfl⟩)
          go_ret
          exact ⟨ret_bool (by rw [HR.out, all_no hlt HB.out]), rfl⟩
        | true =>
          go_wp2_with (go_at_call 47; refine (HLK.out _).mono ?_; rintro e w2 ⟨rfl, rfl⟩)
          go_round
          case rel => exact ⟨k + 1, by omega, by go_num, all_snoc hlt Hall.out HB.out⟩
          case measure => simp [intOf]; omega
      · have HA := Lib.hid (all_end hlt hall)
        go_wp2
        go_ret
        exact ⟨ret_bool (by rw [HR.out, HA.out]), rfl⟩
end Go.Proofs.YtkmgbkcpjlilpaaDoor
