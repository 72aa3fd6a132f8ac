/- package guard: named; the reader's step. -/
import Derived.Test.YtkmgbkcpjlilpaaDoorGLow
namespace Go.Proofs.YtkmgbkcpjlilpaaDoor
open Go.RowKit

theorem head_eq {s : ByteArray} (h : 0 < s.size) : s.data.toList.headD 0 = s[0] := by
  have h1 : s.data.toList = s[0] :: s.data.toList.drop 1 := by
    rw [← List.drop_zero (l := s.data.toList), List.drop_eq_getElem_cons (by rw [ba_len]; exact h)]; rfl
  rw [h1]; rfl

set_option maxHeartbeats 2000000 in
set_option maxRecDepth 100000 in
theorem namedG_walk (s : ByteArray) (w : World) : Calls Tryd.prog 49 #[.string s] w fun e w' => e = .returned (.bool (namedG s)) ∧ Below w.heap.size w w' := by
  have HT := Lib.hid (taken_walk s w)
  have HI := Lib.hid (fun (W : World) => Tryd.strings_IndexFunc_grows 64 #[] (enters_of Tryd.func64 (by kernel_rfl) rfl) _ s W (named1_walk W))
  have hi := idx_neg let_eq (fun r h => by simp [letR]; omega) s
  obtain ⟨R, hR⟩ : ∃ R, namedG s = R := ⟨_, rfl⟩
  rw [hR]
  by_cases h0 : 0 < s.size
  rotate_left
  · have HF : Hid (R = false) := by show _ = _; rw [← hR, namedG, decide_eq_false h0]; simp
    have d0 : decide (0 < (s.size : Int)) = false := decide_eq_false (by omega)
    clear hR hi
    go_enter Tryd.func49, Tryd.ntmps49
    go_wp2_with fail
    go_ret
    exact ⟨ret_bool HF.out.symm, Below.refl _ _⟩
  have d0 : decide (0 < (s.size : Int)) = true := decide_eq_true (by omega)
  by_cases h32 : s.size ≤ 32
  rotate_left
  · have HF : Hid (R = false) := by show _ = _; rw [← hR, namedG, decide_eq_false h32]; simp
    have d1 : decide ((s.size : Int) ≤ 32) = false := decide_eq_false (by omega)
    clear hR hi
    go_enter Tryd.func49, Tryd.ntmps49
    go_wp2_with fail
    go_ret
    exact ⟨ret_bool HF.out.symm, Below.refl _ _⟩
  have d1 : decide ((s.size : Int) ≤ 32) = true := decide_eq_true (by omega)
  rw [namedG, decide_eq_true h0, decide_eq_true h32, head_eq h0] at hR
  have i0 : (0 : Int) < (s.size : Int) := by omega
  by_cases ha : 97 ≤ (s[0].toNat : Int)
  rotate_left
  · have HF : Hid (R = false) := by show _ = _; rw [← hR, decide_eq_false (by omega)]; simp
    have d2 : decide (97 ≤ (s[0].toNat : Int)) = false := decide_eq_false ha
    clear hR hi
    go_enter Tryd.func49, Tryd.ntmps49
    go_wp2_with fail
    go_ret
    exact ⟨ret_bool HF.out.symm, Below.refl _ _⟩
  have d2 : decide (97 ≤ (s[0].toNat : Int)) = true := decide_eq_true ha
  by_cases hz : (s[0].toNat : Int) ≤ 122
  rotate_left
  · have HF : Hid (R = false) := by show _ = _; rw [← hR, decide_eq_false (by omega)]; simp
    have d3 : decide ((s[0].toNat : Int) ≤ 122) = false := decide_eq_false hz
    clear hR hi
    go_enter Tryd.func49, Tryd.ntmps49
    go_wp2_with fail
    go_ret
    exact ⟨ret_bool HF.out.symm, Below.refl _ _⟩
  have d3 : decide ((s[0].toNat : Int) ≤ 122) = true := decide_eq_true hz
  rw [decide_eq_true (show 97 ≤ s[0].toNat ∧ s[0].toNat ≤ 122 by omega)] at hR
  simp only [Bool.true_and] at hR
  cases ht : takenB s
  · rw [ht] at HT hR
    simp only [Bool.not_false, Bool.true_and] at hR
    rw [hR] at hi
    generalize Lib.idxFunc (fun r => !letR r) true s = x at *
    have HF := Lib.hid hi
    clear hR ht hi
    go_enter Tryd.func49, Tryd.ntmps49
    go_wp2_with fail
    refine HT.out.mono ?_
    rintro e w2 ⟨rfl, hb2⟩
    have HB2 := Lib.hid hb2
    clear hb2
    go_wp2_with fail
    refine (HI.out _).mono ?_
    rintro e w3 ⟨rfl, hb3⟩
    have HB3 := Lib.hid (HB2.out.trans (hb3.mono HB2.out.size))
    clear hb3
    go_wp2_with fail
    go_ret
    exact ⟨ret_bool HF.out, HB3.out⟩
  · rw [ht] at HT hR
    have HF : Hid (R = false) := by show _ = _; rw [← hR]; simp
    clear hR ht hi
    go_enter Tryd.func49, Tryd.ntmps49
    go_wp2_with fail
    refine HT.out.mono ?_
    rintro e w2 ⟨rfl, hb2⟩
    have HB2 := Lib.hid hb2
    clear hb2
    go_wp2_with fail
    go_ret
    exact ⟨ret_bool HF.out.symm, HB2.out⟩

/-! Plain facts on a step. -/
theorem drop_at {s : ByteArray} {j : Nat} (h : j < s.size) : s.data.toList.drop j = s[j] :: s.data.toList.drop (j + 1) := by
  rw [List.drop_eq_getElem_cons (by rw [ba_len]; exact h)]; rfl
theorem fromB_next {s : ByteArray} {j : Nat} (h : j < s.size) (h32 : s[j] = 32) : fromB s (j + 1) = fromB s j := by
  have h2 : (s[j] == (32 : UInt8)) = true := by rw [h32]; rfl
  unfold fromB
  rw [drop_at h, List.takeWhile_cons, if_pos h2, List.length_cons]
  omega
theorem fromB_stop {s : ByteArray} {j : Nat} (h : j < s.size) (h32 : s[j] ≠ 32) : fromB s j = j := by
  have h2 : ¬ (s[j] == (32 : UInt8)) = true := by simpa using h32
  unfold fromB
  rw [drop_at h, List.takeWhile_cons, if_neg h2]
  rfl
theorem fromB_end (s : ByteArray) : fromB s s.size = s.size := by
  unfold fromB
  rw [List.drop_of_length_le (by rw [ba_len]; exact Nat.le_refl _)]
  rfl
theorem sign_idx (c : UInt8) : decide (0 ≤ Lib.indexByte signsB c) = signsB.contains c := by
  refine u8_all (p := fun c => decide (0 ≤ Lib.indexByte signsB c) = signsB.contains c) ?_ c
  decide +kernel
def tenB : List UInt8 := [48, 49, 50, 51, 52, 53, 54, 55, 56, 57]
theorem ten_eq (c : UInt8) : tenB.contains c = digitB c := by
  refine u8_all (p := fun c => tenB.contains c = digitB c) ?_ c
  decide +kernel
theorem idx_quote : ∀ l : List UInt8, Lib.indexByte l 39 = if (l.takeWhile (· != 39)).length < l.length then ((l.takeWhile (· != 39)).length : Int) else -1
  | [] => rfl
  | c :: r => by
    rw [Lib.indexByte, idx_quote r, List.takeWhile_cons]
    by_cases h : c = 39
    · subst h; simp
    · have h1 : (c == (39 : UInt8)) = false := by simpa using h
      have h2 : (c != (39 : UInt8)) = true := by simpa using h
      rw [h1, h2]
      simp only [Bool.false_eq_true, if_false, if_true, List.length_cons, Nat.add_lt_add_iff_right]
      split
      · rw [if_neg (by simp <;> omega)] <;> omega
      · simp
theorem take_takeWhile {p : UInt8 → Bool} (l : List UInt8) : l.take (l.takeWhile p).length = l.takeWhile p :=
  (List.prefix_iff_eq_take.1 (List.takeWhile_prefix p)).symm
end Go.Proofs.YtkmgbkcpjlilpaaDoor
