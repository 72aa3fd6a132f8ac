/- docketlaw21.great. -/
import Derived.Test.YtflckjabjhmnfaaGreatDoorProg
import Derived.Test.YtflckjabjhmnfaaGreatDoorHashWords
namespace Go.Proofs.YtflckjabjhmnfaaGreatDoor
open Go.RowKit

def greatB (xs : List ByteArray) : Bool := decide (100 < xs.length) || xs.any fun s => decide (3000 < s.size)
theorem greatB_no {xs : List ByteArray} (h : greatB xs = false) : xs.length ≤ 100 ∧ ∀ s ∈ xs, s.size ≤ 3000 := by
  simp only [greatB, Bool.or_eq_false_iff, decide_eq_false_iff_not, List.any_eq_false, decide_eq_true_eq] at h
  exact ⟨by omega, fun s hs => by have := h.2 s hs; omega⟩

set_option maxHeartbeats 1000000 in
theorem great_walk (v : Value) (xs : List ByteArray) (B : Nat) (w : World) (hl : xs.length ≤ maxLen) (hs : ∀ s ∈ xs, s.size ≤ maxLen) (h : Strs B w v xs) :
    Calls Tryz.prog 4 #[v] w fun e w' => e = .returned (.bool (greatB xs)) ∧ w = w' := by
  obtain ⟨a, c, b, o, rfl, -, ha, hc⟩ := h.cells
  have HA := Lib.hid ha; have HC := Lib.hid hc; have HS := Lib.hid hs
  clear h ha hc hs
  unfold maxLen at hl
  obtain ⟨r, hr⟩ : ∃ r, greatB xs = r := ⟨_, rfl⟩
  rw [hr]
  have HR := Lib.hid hr
  clear hr
  by_cases h1 : 100 < xs.length
  · have d1 : decide (100 < (xs.length : Int)) = true := decide_eq_true (by omega)
    have HF : Hid (r = true) := by show _ = _; rw [← HR.out, greatB]; simp [h1]
    go_enter Tryz.func4, Tryz.ntmps4
    go_wp2
    go_ret
    exact ⟨ret_bool HF.out.symm, rfl⟩
  · have d1 : decide (100 < (xs.length : Int)) = false := decide_eq_false (by omega)
    have HF : Hid (r = xs.any fun s => decide (3000 < s.size)) := by show _ = _; rw [← HR.out, greatB]; simp [h1]
    go_enter Tryz.func4, Tryz.ntmps4
    go_wp2
    go_loop [3] (fun i => ∃ k : Nat, k ≤ xs.length ∧ i = .int .i64 k ∧ Hid ((xs.take k).any (fun s => decide (3000 < s.size)) = false)) (fun i => xs.length - (intOf i).toNat)
    case atStart => exact ⟨0, by omega, rfl, by simp [Hid]⟩
    case round =>
      obtain ⟨k, hk, rfl, hno⟩ := hrel
      by_cases hlt : k < xs.length
      · obtain ⟨rfl, -⟩ := HA.out (by omega)
        have x0 := HC.out k hlt
        have hsz := HS.out xs[k] (List.getElem_mem hlt)
        unfold maxLen at hsz
        have i1 : (k : Int) < (xs.length : Int) := by omega
        by_cases h3 : 3000 < xs[k].size
        · have HT : Hid (r = true) := by
            show _ = _
            rw [HF.out]
            exact List.any_eq_true.2 ⟨xs[k], List.getElem_mem hlt, by simpa using h3⟩
          obtain ⟨s, hs⟩ : ∃ s, xs[k] = s := ⟨_, rfl⟩
          rw [hs] at x0 hsz h3
          have d3 : decide (3000 < (s.size : Int)) = true := decide_eq_true (by omega)
          clear hs hno h3
          go_wp2
          go_ret
          exact ⟨ret_bool HT.out.symm, rfl⟩
        · have HN : Hid ((xs.take (k + 1)).any (fun s => decide (3000 < s.size)) = false) := by
            show _ = _
            rw [List.take_succ_eq_append_getElem hlt, List.any_append, hno.out]; simp; omega
          obtain ⟨s, hs⟩ : ∃ s, xs[k] = s := ⟨_, rfl⟩
          rw [hs] at x0 hsz h3
          have d3 : decide (3000 < (s.size : Int)) = false := decide_eq_false (by omega)
          clear hs hno h3
          go_wp2
          go_round
          case rel => exact ⟨k + 1, by omega, by go_num, HN⟩
          case measure => simp [intOf]; omega
      · obtain rfl : k = xs.length := by omega
        have HN : Hid (r = false) := by
          show _ = _
          have := hno.out
          rw [List.take_length] at this
          rw [HF.out, this]
        clear hno
        go_wp2
        go_ret
        exact ⟨ret_bool HN.out.symm, rfl⟩

/-- a slice of strings that is a whole new block -/
theorem strs_new (w : World) (xs : List ByteArray) (t n : Nat) (hn : xs.length = n) : Strs (w.heap.size + 1) (w.alloc (.cells (xs.map Value.string).toArray t)) (.slice (some ⟨w.heap.size, 0, none⟩) n n) xs := by
  subst hn
  refine ⟨some ⟨w.heap.size, 0, none⟩, xs.length, w.heap.size, 0, rfl, Nat.le_refl _, fun _ => ⟨rfl, by omega⟩, fun j x hj => ⟨fun _ => .string x, fun i hi => ?_, rfl⟩⟩
  obtain rfl : i = 0 := by omega
  have := (Arr.new w (xs.map Value.string) t).cell (j := j) (by simp; exact (List.getElem?_eq_some_iff.1 hj).1)
  rw [show 0 + j * 1 + 0 = j by omega, this]
  obtain ⟨h1, h2⟩ := List.getElem?_eq_some_iff.1 hj
  simp [h2]
theorem new_size (w : World) (o : Obj) : (w.alloc o).heap.size = w.heap.size + 1 := by simp
end Go.Proofs.YtflckjabjhmnfaaGreatDoor
