/- docketref21.cut, docketref21.number. -/
import Derived.Lib.Strings
import Derived.Test.YtflckjabjhmnfaaGreatDoorTens
namespace Go.Proofs.YtflckjabjhmnfaaGreatDoor
open Go.RowKit

theorem ba_mk (b : ByteArray) : (⟨b.data.toList.toArray⟩ : ByteArray) = b := by cases b; simp
/-- what stands ahead of the first point from a place on -/
def CutEnd (s : ByteArray) (f : Nat) (e : Ending) : Prop :=
  (∃ a r, s.data.toList.drop f = a ++ 46 :: r ∧ 46 ∉ a ∧ e = .returned (.tuple #[.string ⟨a.toArray⟩, .int .i64 ((f + a.length + 1 : Nat) : Int), .bool true])) ∨
    (46 ∉ s.data.toList.drop f ∧ e = .returned (.tuple #[.string ⟨#[]⟩, .int .i64 0, .bool false]))
theorem cut_here {s : ByteArray} {f k : Nat} (hf : f ≤ k) (hk : k < s.size) (h : 46 ∉ (s.data.toList.drop f).take (k - f)) (h46 : s[k] = 46) :
    CutEnd s f (.returned (.tuple #[.string (s.extract f k), .int .i64 ((k : Int) + 1), .bool true])) := by
  have hl : s.data.toList.length = s.size := rfl
  refine .inl ⟨(s.data.toList.drop f).take (k - f), s.data.toList.drop (k + 1), ?_, h, ?_⟩
  · have h1 : (s.data.toList.drop f).drop (k - f) = 46 :: s.data.toList.drop (k + 1) := by
      rw [List.drop_drop, show f + (k - f) = k by omega, List.drop_eq_getElem_cons (by omega)]
      congr 1
    rw [← h1, List.take_append_drop]
  · have h2 : (s.data.toList.drop f).take (k - f) = (s.extract f k).data.toList := by rw [Lib.extract_data]
    have h3 : ((s.data.toList.drop f).take (k - f)).length = k - f := by rw [List.length_take, List.length_drop]; omega
    have h4 : ((f + (k - f) + 1 : Nat) : Int) = (k : Int) + 1 := by omega
    rw [h3, h2, ba_mk, h4]
theorem cut_next {s : ByteArray} {f k : Nat} (hf : f ≤ k) (hk : k < s.size) (h : 46 ∉ (s.data.toList.drop f).take (k - f)) (h46 : s[k] ≠ 46) : 46 ∉ (s.data.toList.drop f).take (k + 1 - f) := by
  have hl : s.data.toList.length = s.size := rfl
  rw [show k + 1 - f = k - f + 1 by omega, List.take_succ_eq_append_getElem (by rw [List.length_drop]; omega)]
  intro hm
  rcases List.mem_append.1 hm with h1 | h1
  · exact h h1
  · simp only [List.mem_singleton, List.getElem_drop] at h1
    apply h46
    rw [ByteArray.getElem_eq_getElem_data]
    have : f + (k - f) = k := by omega
    simp only [this] at h1
    simpa using h1.symm

set_option maxHeartbeats 2000000 in
set_option maxRecDepth 100000 in
theorem cut_walk (s : ByteArray) (f : Nat) (w : World) (hs : s.size ≤ 1000000) (hf : f ≤ s.size) :
    Calls Tryz.prog 18 #[.string s, .int .i64 (f : Int)] w fun e w' => CutEnd s f e ∧ w = w' := by
  go_enter Tryz.func18, Tryz.ntmps18
  go_wp2
  go_loop [7] (fun i => ∃ k : Nat, f ≤ k ∧ k ≤ s.size ∧ i = .int .i64 k ∧ Hid (46 ∉ (s.data.toList.drop f).take (k - f))) (fun i => s.size - (intOf i).toNat)
  case atStart => exact ⟨f, Nat.le_refl _, hf, rfl, by simp [Hid]⟩
  case round =>
    obtain ⟨k, hfk, hk, rfl, hno⟩ := hrel
    by_cases hlt : k < s.size
    · have i1 : (k : Int) < (s.size : Int) := by omega
      have i2 : (0 : Int) ≤ (f : Int) := by omega
      have i3 : (f : Int) ≤ (k : Int) := by omega
      by_cases h46 : s[k] = 46
      · have HC := Lib.hid (cut_here hfk hlt hno.out h46)
        have g : (((s[k]'hlt).toNat : Int) == 46) = true := by rw [h46]; rfl
        clear h46 hno
        go_wp2
        go_ret3
        exact ⟨HC.out, rfl⟩
      · have HC := Lib.hid (cut_next hfk hlt hno.out h46)
        have g : (((s[k]'hlt).toNat : Int) == 46) = false := by
          rw [beq_eq_false_iff_ne]
          intro he
          exact h46 (UInt8.toNat_inj.1 (by have : (46 : UInt8).toNat = 46 := rfl; omega))
        clear h46 hno
        go_wp2
        go_round
        case rel => exact ⟨k + 1, by omega, by omega, by go_num, HC⟩
        case measure => simp [intOf]; omega
    · obtain rfl : k = s.size := by omega
      have HN : Hid (46 ∉ s.data.toList.drop f) := by
        have := hno.out
        rw [List.take_of_length_le (by rw [List.length_drop]; exact Nat.le_refl _)] at this
        exact this
      clear hno
      go_wp2
      go_ret3
      exact ⟨.inr ⟨HN.out, rfl⟩, rfl⟩
end Go.Proofs.YtflckjabjhmnfaaGreatDoor
