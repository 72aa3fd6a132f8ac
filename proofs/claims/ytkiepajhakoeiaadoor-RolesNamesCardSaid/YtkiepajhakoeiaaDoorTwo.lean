/- docketlaw20.two: the roles of the chapter. -/
import Derived.Test.YtkiepajhakoeiaaDoorRoleData
import Derived.Test.YtkiepajhakoeiaaDoorProg
namespace Go.Proofs.YtkiepajhakoeiaaDoor
open Go.RowKit

abbrev bossB : ByteArray := ⟨#[98, 111, 115, 115]⟩
abbrev clerkB : ByteArray := ⟨#[99, 108, 101, 114, 107]⟩
abbrev signB : ByteArray := ⟨#[115, 105, 103, 110]⟩
abbrev checkB : ByteArray := ⟨#[99, 104, 101, 99, 107]⟩
def TwoIs (l : List Rl) : Prop := ∃ a c a' c' a2 c2, l = [⟨bossB, a, c, a', c', [clerkB], [signB]⟩, ⟨clerkB, none, 0, a2, c2, [], [checkB]⟩]
def TwoEnd (w : World) (e : Ending) (w' : World) : Prop := ∃ v l, e = .returned v ∧ TwoIs l ∧ Rls w'.heap.size w' v l ∧ Below w.heap.size w w'

theorem heap_push (w : World) (o : Obj) : (w.alloc o).heap = w.heap.push o := rfl
/-- a slice of strings that is a whole block -/
theorem strs_block {B b : Nat} {w : World} {cs : Array Value} {t : TypeId} {fz : Nat × Nat} (xs : List ByteArray) (hb : w.heap[b]? = some (.cells cs t fz)) (hc : cs.toList = xs.map Value.string) (hB : b < B) (c : Nat) (hcap : xs.length ≤ c) : Strs B w (.slice (some ⟨b, 0, none⟩) xs.length c) xs := by
  refine ⟨some ⟨b, 0, none⟩, c, b, 0, rfl, hcap, fun _ => ⟨rfl, hB⟩, fun j x hj => ⟨fun _ => .string x, fun i hi => ?_, rfl⟩⟩
  obtain rfl : i = 0 := by omega
  have h1 : cs[j]? = some (.string x) := by rw [← Array.getElem?_toList, hc, List.getElem?_map, hj]; rfl
  simp [World.cell?, hb, h1]
theorem cell_of {b : Nat} {w : World} {cs : Array Value} {t : TypeId} {fz : Nat × Nat} (h : w.heap[b]? = some (.cells cs t fz)) (o : Nat) : w.cell? ⟨b, o, none⟩ = cs[o]? := by
  simp [World.cell?, h]
abbrev twoCells (h : Nat) : Array Value := #[.string bossB, .slice (some ⟨h, 0, none⟩) 1 1, .slice (some ⟨h + 1, 0, none⟩) 1 1, .string clerkB, .slice none 0 0, .slice (some ⟨h + 1 + 1, 0, none⟩) 1 1]
theorem strs_none (B : Nat) (w : World) : Strs B w (.slice none 0 0) [] := ⟨none, 0, 0, 0, rfl, by simp, by simp, by simp⟩

set_option maxHeartbeats 2000000 in
theorem law_two (w : World) : Calls Tryd.prog 21 #[] w (TwoEnd w) := by
  go_enter Tryd.func21, Tryd.ntmps21
  go_wp2
  go_ret
  refine ⟨_, [⟨bossB, some ⟨w.heap.size, 0, none⟩, 1, some ⟨w.heap.size + 1, 0, none⟩, 1, [clerkB], [signB]⟩, ⟨clerkB, none, 0, some ⟨w.heap.size + 1 + 1, 0, none⟩, 1, [], [checkB]⟩], rfl, ⟨_, _, _, _, _, _, rfl⟩, ?_, ?_⟩
  · refine ⟨some ⟨w.heap.size + 1 + 1 + 1, 0, none⟩, 2, w.heap.size + 1 + 1 + 1, 0, rfl, by simp, fun _ => ⟨rfl, by simp⟩, fun j x hj => ?_⟩
    have ok1 : ∀ s ∈ [clerkB], s.size ≤ maxLen := fun s hs => by rw [List.mem_singleton.1 hs]; decide +kernel
    have ok2 : ∀ s ∈ [signB], s.size ≤ maxLen := fun s hs => by rw [List.mem_singleton.1 hs]; decide +kernel
    have ok3 : ∀ s ∈ [checkB], s.size ≤ maxLen := fun s hs => by rw [List.mem_singleton.1 hs]; decide +kernel
    match j, hj with
    | 0, hj =>
      injection hj with hj
      subst hj
      refine ⟨fun i => (#[Value.string bossB, Value.slice (some { block := w.heap.size, off := 0 }) 1 1, Value.slice (some { block := w.heap.size + 1, off := 0 }) 1 1] : Array Value).getD i undef, fun i hi => ?_, rfl, rfl, rfl, strs_block [clerkB] (cs := #[.string clerkB]) (t := 9) (fz := (0, 0)) ?_ rfl ?_ _ (by simp), strs_block [signB] (cs := #[.string signB]) (t := 9) (fz := (0, 0)) ?_ rfl ?_ _ (by simp), ⟨show (4 : Nat) ≤ maxLen by decide +kernel, ok1, ok2, by simp [maxLen], by simp [maxLen]⟩⟩
      · match i, hi with
        | 0, _ => exact (cell_of (cs := twoCells w.heap.size) (t := 39) (fz := (0, 0)) (by (simp only [heap_push, Array.getElem?_push, Array.size_push]; repeat (first | rw [if_pos trivial] | rw [if_pos (by omega)] | rw [if_neg (by omega)]))) _).trans rfl
        | 1, _ => exact (cell_of (cs := twoCells w.heap.size) (t := 39) (fz := (0, 0)) (by (simp only [heap_push, Array.getElem?_push, Array.size_push]; repeat (first | rw [if_pos trivial] | rw [if_pos (by omega)] | rw [if_neg (by omega)]))) _).trans rfl
        | 2, _ => exact (cell_of (cs := twoCells w.heap.size) (t := 39) (fz := (0, 0)) (by (simp only [heap_push, Array.getElem?_push, Array.size_push]; repeat (first | rw [if_pos trivial] | rw [if_pos (by omega)] | rw [if_neg (by omega)]))) _).trans rfl
      all_goals first | ((simp only [heap_push, Array.getElem?_push, Array.size_push]; repeat (first | rw [if_pos trivial] | rw [if_pos (by omega)] | rw [if_neg (by omega)])); done) | (simp; done) | (simp; omega)
    | 1, hj =>
      injection hj with hj
      subst hj
      refine ⟨fun i => (#[Value.string clerkB, Value.slice none 0 0, Value.slice (some { block := w.heap.size + 1 + 1, off := 0 }) 1 1] : Array Value).getD i undef, fun i hi => ?_, rfl, rfl, rfl, strs_none _ _, strs_block [checkB] (cs := #[.string checkB]) (t := 9) (fz := (0, 0)) ?_ rfl ?_ _ (by simp), ⟨show (5 : Nat) ≤ maxLen by decide +kernel, by simp, ok3, by simp [maxLen], by simp [maxLen]⟩⟩
      · match i, hi with
        | 0, _ => exact (cell_of (cs := twoCells w.heap.size) (t := 39) (fz := (0, 0)) (by (simp only [heap_push, Array.getElem?_push, Array.size_push]; repeat (first | rw [if_pos trivial] | rw [if_pos (by omega)] | rw [if_neg (by omega)]))) _).trans rfl
        | 1, _ => exact (cell_of (cs := twoCells w.heap.size) (t := 39) (fz := (0, 0)) (by (simp only [heap_push, Array.getElem?_push, Array.size_push]; repeat (first | rw [if_pos trivial] | rw [if_pos (by omega)] | rw [if_neg (by omega)]))) _).trans rfl
        | 2, _ => exact (cell_of (cs := twoCells w.heap.size) (t := 39) (fz := (0, 0)) (by (simp only [heap_push, Array.getElem?_push, Array.size_push]; repeat (first | rw [if_pos trivial] | rw [if_pos (by omega)] | rw [if_neg (by omega)]))) _).trans rfl
      all_goals first | ((simp only [heap_push, Array.getElem?_push, Array.size_push]; repeat (first | rw [if_pos trivial] | rw [if_pos (by omega)] | rw [if_neg (by omega)])); done) | (simp; done) | (simp; omega)
    | j + 2, hj => simp at hj
  · exact ((((Below.refl _ _).alloc (Nat.le_refl _) _).alloc (by simp) _).alloc (by simp; omega) _).alloc (by simp; omega) _
end Go.Proofs.YtkiepajhakoeiaaDoor
