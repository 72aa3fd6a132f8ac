/- docketref21.number. pass.sealer; what a token is or is not. -/
import Derived.Test.YtinijohmdljieaaGreatDoorH17
import Derived.Test.YtinijohmdljieaaGreatDoorH01
import Derived.Test.YtinijohmdljieaaGreatDoorH02
import Derived.Test.YtinijohmdljieaaGreatDoorH15
namespace Go.Proofs.YtinijohmdljieaaGreatDoor
open Go.RowKit

def digB (c : UInt8) : Bool := decide (48 ≤ c.toNat ∧ c.toNat ≤ 57)
theorem spell_lt (l : List UInt8) : ∀ acc : Nat, l.all digB = true → spell acc l < (acc + 1) * 10 ^ l.length := by
  induction l with
  | nil =>
    intro acc _
    show acc < (acc + 1) * 10 ^ 0
    rw [Nat.pow_zero]
    omega
  | cons c r ih =>
    intro acc h
    simp only [List.all_cons, Bool.and_eq_true] at h
    have hc := h.1
    simp only [digB, decide_eq_true_eq] at hc
    have h1 := ih (acc * 10 + (c.toNat - 48)) h.2
    have h2 : (acc * 10 + (c.toNat - 48) + 1) * 10 ^ r.length ≤ ((acc + 1) * 10) * 10 ^ r.length := Nat.mul_le_mul_right _ (by omega)
    have h3 : ((acc + 1) * 10) * 10 ^ r.length = (acc + 1) * 10 ^ (r.length + 1) := by rw [Nat.pow_succ, Nat.mul_comm (10 ^ r.length) 10, Nat.mul_assoc]
    have h4 : spell acc (c :: r) = spell (acc * 10 + (c.toNat - 48)) r := rfl
    rw [h4, List.length_cons, ← h3]
    exact Nat.lt_of_lt_of_le h1 h2
theorem spell_13 {l : List UInt8} (h : l.all digB = true) (hl : l.length ≤ 13) : spell 0 l < 10000000000000 := by
  have h1 := spell_lt l 0 h
  have h2 : 10 ^ l.length ≤ 10 ^ 13 := Nat.pow_le_pow_right (by omega) hl
  omega
theorem numberB_no1 {s : List UInt8} (h : s = []) : numberB s = -1 := by unfold numberB; rw [if_pos (.inl h)]
theorem numberB_no2 {s : List UInt8} (h : 13 < s.length) : numberB s = -1 := by unfold numberB; rw [if_pos (.inr (.inl h))]
theorem numberB_no3 {s : List UInt8} (h : s.head? = some 48) (h2 : s ≠ [48]) : numberB s = -1 := by unfold numberB; rw [if_pos (.inr (.inr ⟨h, h2⟩))]
theorem numberB_no4 {s : List UInt8} (h : s.all digB = false) : numberB s = -1 := by
  unfold numberB
  split
  · rfl
  · rw [if_neg]
    intro h2
    have : s.all digB = true := h2
    rw [h] at this; cases this
theorem numberB_yes {s : List UInt8} (h0 : s ≠ []) (h1 : ¬ 13 < s.length) (h2 : ¬ (s.head? = some 48 ∧ s ≠ [48])) (h : s.all digB = true) : numberB s = spell 0 s := by
  unfold numberB
  rw [if_neg (by rintro (h' | h' | h') <;> contradiction)]
  exact if_pos h
theorem spell_snoc {s : ByteArray} {k : Nat} (h : k < s.size) : spell 0 (s.data.toList.take (k + 1)) = spell 0 (s.data.toList.take k) * 10 + (s[k].toNat - 48) := by
  rw [take_snoc s k h, spell_append]; rfl

set_option maxHeartbeats 4000000 in
set_option maxRecDepth 100000 in
theorem number_walk (s : ByteArray) (w : World) (hs : s.size ≤ 1000000) :
    Calls Tryz.prog 84 #[.string s] w fun e w' => e = .returned (.int .i64 (numberB s.data.toList)) ∧ w = w' := by
  obtain ⟨R, hR⟩ : ∃ R, numberB s.data.toList = R := ⟨_, rfl⟩
  rw [hR]
  have HR := Lib.hid hR
  have hl := ba_len s
  clear hR
  by_cases h0 : s.toList = []
  · have HF : Hid (R = -1) := by show _ = _; rw [← HR.out]; rw [Go.ByteArray.toList_eq] at h0; exact numberB_no1 h0
    clear hl
    go_enter Tryz.func84, Tryz.ntmps84
    go_wp2
    go_ret
    exact ⟨ret_int HF.out.symm, rfl⟩
  have hz : s.toList.isEmpty = false := by simpa using h0
  have H0 : Hid (s.data.toList ≠ []) := by rw [← Go.ByteArray.toList_eq]; exact h0
  by_cases h13 : 13 < (s.size : Int)
  · have HF : Hid (R = -1) := by show _ = _; rw [← HR.out]; exact numberB_no2 (by omega)
    clear hl
    go_enter Tryz.func84, Tryz.ntmps84
    go_wp2
    go_ret
    exact ⟨ret_int HF.out.symm, rfl⟩
  have hp : 0 < s.size := by
    rcases Nat.eq_zero_or_pos s.size with h | h
    · exact absurd (List.eq_nil_of_length_eq_zero (by rw [hl]; exact h)) H0.out
    · exact h
  have HH : Hid (s.data.toList.head? = some (s[0]'hp)) := by
    show _ = _
    rw [List.head?_eq_getElem?, List.getElem?_eq_getElem (by omega)]
    rfl
  have hsz : s.size ≤ 13 := by omega
  have hx : (s[0]'hp).toNat = 48 → s.data.toList.head? = some 48 := fun h => by
    rw [HH.out, UInt8.toNat_inj.1 (show (s[0]'hp).toNat = (48 : UInt8).toNat from h)]
  have hx2 : (s[0]'hp).toNat ≠ 48 → ¬ s.data.toList.head? = some 48 := fun h h2 => by
    rw [HH.out] at h2
    injection h2 with h2
    exact h (by rw [h2]; rfl)
  by_cases hbad : ((s[0]'hp).toNat : Int) = 48 ∧ s.toList ≠ [48]
  · have HF : Hid (R = -1) := by
      show _ = _
      rw [← HR.out]
      exact numberB_no3 (hx (by omega)) (by rw [← Go.ByteArray.toList_eq]; exact hbad.2)
    have hq : (s.toList == [48]) = false := by simpa using hbad.2
    have hc := hbad.1
    clear hl hx hx2 hbad
    go_enter Tryz.func84, Tryz.ntmps84
    go_wp2
    go_ret
    exact ⟨ret_int HF.out.symm, rfl⟩
  have HY : Hid (s.data.toList.all digB = true → R = spell 0 s.data.toList) := fun h => by
    rw [← HR.out]
    refine numberB_yes H0.out (by omega) ?_ h
    rintro ⟨h1, h2⟩
    refine hbad ⟨?_, by rw [Go.ByteArray.toList_eq]; exact h2⟩
    rcases Nat.lt_or_ge 0 1 with _ | _
    · by_cases h3 : (s[0]'hp).toNat = 48
      · omega
      · exact absurd h1 (hx2 h3)
    · omega
  have HNO : Hid (s.data.toList.all digB = false → R = -1) := fun h => by rw [← HR.out]; exact numberB_no4 h
  have hor : ¬ ((s[0]'hp).toNat : Int) = 48 ∨ (((s[0]'hp).toNat : Int) = 48 ∧ (s.toList == [48]) = true) := by
    by_cases h3 : ((s[0]'hp).toNat : Int) = 48
    · exact .inr ⟨h3, by rw [beq_iff_eq]; exact Classical.byContradiction fun h4 => hbad ⟨h3, h4⟩⟩
    · exact .inl h3
  clear hbad hx hx2 HH H0 h0 HR
  rcases hor with hc | ⟨hc, hq⟩ <;>
  · go_enter Tryz.func84, Tryz.ntmps84
    go_wp2
    go_loop [3, 4] (fun n i => ∃ k : Nat, k ≤ s.size ∧ i = .int .i64 k ∧ n = .int .i64 (spell 0 (s.data.toList.take k) : Nat) ∧ Hid ((s.data.toList.take k).all digB = true)) (fun _ i => s.size - (intOf i).toNat)
    case atStart => exact ⟨0, by omega, rfl, rfl, by simp [Hid]⟩
    case round =>
      obtain ⟨k, hk, rfl, rfl, hall⟩ := hrel
      by_cases hlt : k < s.size
      · have i1 : (k : Int) < (s.size : Int) := by omega
        by_cases hd : digB (s[k]'hlt) = true
        · have HA : Hid ((s.data.toList.take (k + 1)).all digB = true) := all_snoc hlt hall.out hd
          have HS := Lib.hid (spell_snoc hlt)
          have hb := spell_13 hall.out (by rw [List.length_take]; omega)
          simp only [digB, decide_eq_true_eq] at hd
          generalize spell 0 (s.data.toList.take k) = z at *
          have c1 : ¬ ((s[k]'hlt).toNat : Int) < 48 := by omega
          have c2 : ¬ 57 < ((s[k]'hlt).toNat : Int) := by omega
          have HE : Hid (10 * (z : Int) + ((s[k]'hlt).toNat : Int) - 48 = ((spell 0 (s.data.toList.take (k + 1)) : Nat) : Int)) := by show _ = _; rw [HS.out]; omega
          have wr1 : IntKind.i64.wrap (10 * (z : Int)) = 10 * (z : Int) := wrap_i64 (by omega) (by omega)
          have wr2 : IntKind.i64.wrap (10 * (z : Int) + ((s[k]'hlt).toNat : Int)) = 10 * (z : Int) + ((s[k]'hlt).toNat : Int) := wrap_i64 (by omega) (by omega)
          have wr3 : IntKind.i64.wrap (10 * (z : Int) + ((s[k]'hlt).toNat : Int) - 48) = 10 * (z : Int) + ((s[k]'hlt).toNat : Int) - 48 := wrap_i64 (by omega) (by omega)
          clear hall hb HS hd
          go_wp2
          go_round
          case rel => exact ⟨k + 1, by omega, by go_num, by rw [← HE.out], HA⟩
          case measure => simp [intOf]; omega
        · have HF : Hid (R = -1) := HNO.out (all_no hlt (by simpa using hd))
          have hor2 : ((s[k]'hlt).toNat : Int) < 48 ∨ (¬ ((s[k]'hlt).toNat : Int) < 48 ∧ 57 < ((s[k]'hlt).toNat : Int)) := by
            simp only [digB, decide_eq_true_eq] at hd
            omega
          clear hall hd
          rcases hor2 with c1 | ⟨c1, c2⟩ <;>
          · go_wp2
            go_ret
            exact ⟨ret_int HF.out.symm, rfl⟩
      · have HF : Hid (R = spell 0 s.data.toList) := HY.out (all_end hlt hall.out)
        have HT : Hid (s.data.toList.take k = s.data.toList) := List.take_of_length_le (by omega)
        clear hall
        go_wp2
        go_ret
        exact ⟨ret_int (by rw [HT.out, HF.out]), rfl⟩
end Go.Proofs.YtinijohmdljieaaGreatDoor

namespace Go.Proofs.YtinijohmdljieaaGreatDoor
open Go.RowKit

set_option maxRecDepth 100000 in
theorem sealer_walk (secret : ByteArray) (w : World) : Calls Tryz.prog 81 #[.string secret] w fun e w' => e = .returned (.func (.func 123) #[] #[.pointer (some ⟨w.heap.size, 0, none⟩)]) ∧ w' = w.alloc (.cells #[.string secret] 9) := by
  have hmf : ∀ (fn : Fn) (first cap : Array Value) (w : World), (Instr.makeFunc fn first cap).run Tryz.prog w = .ok (.func fn first cap) w := fun _ _ _ _ => rfl
  go_enter Tryz.func81, Tryz.ntmps81
  go_wp2
  go_ret
  exact ⟨rfl, rfl⟩
theorem token_bad {k : List UInt8} {s : Sess} (h : ¬ (0 < k.length ∧ k.length ≤ 64)) : tokenT k s = ([], 3) := by rw [tokenT, if_pos h]
theorem token_yes {k : List UInt8} {s : Sess} (h : 0 < k.length ∧ k.length ≤ 64) (hs : sessB s) : tokenT k s = (madeT k s, 0) := by rw [tokenT, if_neg (fun q => q h), if_pos hs]
theorem token_no {k : List UInt8} {s : Sess} (h : 0 < k.length ∧ k.length ≤ 64) (hs : ¬ sessB s) : tokenT k s = ([], 8) := by rw [tokenT, if_neg (fun q => q h), if_neg hs]
theorem word_iff (s : ByteArray) : wordN s.size = true ↔ (0 < s.data.toList.length ∧ s.data.toList.length ≤ 64) := by
  rw [ba_len]
  simp [wordN]
end Go.Proofs.YtinijohmdljieaaGreatDoor
