/- docketlaw20.alive: what the boss comes to. -/
import Derived.Test.YtkiepajhakoeiaaDoorTwo
import Derived.Test.YtkiepajhakoeiaaDoorPlain20
namespace Go.Proofs.YtkiepajhakoeiaaDoor
open Go.RowKit

abbrev nobodyB : ByteArray := ⟨#[110, 111, 98, 111, 100, 121]⟩
theorem two_chk {l : List Rl} (h : TwoIs l) : chkP l = 0 := by
  obtain ⟨a, c, a', c', a2, c2, rfl⟩ := h
  rfl
theorem two_closed {l : List Rl} (h : TwoIs l) {names : List ByteArray} (hn : names.length ≤ 1024) : closedE l names = 0 := by
  rw [closedE_few hn, two_chk h]
theorem two_boss {l : List Rl} (h : TwoIs l) {ns : List ByteArray} (hc : ClosedTo l [bossB, nobodyB] ns) : ns = [bossB, clerkB] := by
  have he := two_closed h (names := [bossB, nobodyB]) (by simp)
  have hn := (closed_nodup he).1
  refine rising_unique (hc.2 he).1 (by simp only [Rising, List.pairwise_cons, List.mem_cons, List.not_mem_nil, or_false, forall_eq]; exact ⟨show (_ : List UInt8) < _ by decide +kernel, by simp⟩) fun n => ?_
  rw [(hc.2 he).2]
  obtain ⟨a, c, a', c', a2, c2, rfl⟩ := h
  constructor
  · rintro ⟨r, h1, rfl⟩
    have := reach_mem h1
    simp only [List.mem_cons, List.not_mem_nil, or_false] at this
    rcases this with rfl | rfl <;> simp
  · intro hm
    have h1 : Reach [⟨bossB, a, c, a', c', [clerkB], [signB]⟩, ⟨clerkB, none, 0, a2, c2, [], [checkB]⟩] [bossB, nobodyB] ⟨bossB, a, c, a', c', [clerkB], [signB]⟩ := .start (n := bossB) (by simp) rfl
    simp only [List.mem_cons, List.not_mem_nil, or_false] at hm
    rcases hm with rfl | rfl
    · exact ⟨_, h1, rfl⟩
    · exact ⟨⟨clerkB, none, 0, a2, c2, [], [checkB]⟩, .more (n := clerkB) h1 (by simp) rfl, rfl⟩

set_option maxHeartbeats 2000000 in
theorem law_alive (w : World) : Calls Tryd.prog 11 #[] w fun e w' => e = .returned (.bool true) ∧ Below w.heap.size w w' := by
  go_enter Tryd.func11, Tryd.ntmps11
  go_wp2_with fail
  refine (law_two _).mono ?_
  rintro e w1 ⟨v, l, rfl, hT, hR, hb⟩
  have h2 : Hid (l.length = 2) := Lib.hid (by obtain ⟨_, _, _, _, _, _, rfl⟩ := hT; rfl)
  obtain ⟨a, c, b, o, rfl, hle, -⟩ := hR.cells
  go_wp2_with fail
  have hba : Below w1.heap.size w1 (w1.alloc (.cells #[.string bossB, .string nobodyB] 9)) := (Below.refl _ _).alloc (Nat.le_refl _) _
  have hS : Strs (w1.alloc (.cells #[.string bossB, .string nobodyB] 9)).heap.size (w1.alloc (.cells #[.string bossB, .string nobodyB] 9)) (.slice (some ⟨w1.heap.size, 0, none⟩) 2 2) [bossB, nobodyB] :=
    strs_block [bossB, nobodyB] (cs := #[.string bossB, .string nobodyB]) (t := 9) (fz := (0, 0)) (by simp [heap_push]) rfl (by simp) 2 (by simp)
  have hR2 : Rls (w1.alloc (.cells #[.string bossB, .string nobodyB] 9)).heap.size (w1.alloc (.cells #[.string bossB, .string nobodyB] 9)) (.slice a l.length c) l := (hR.below hba).mono (by simp)
  have hz : ∀ s ∈ [bossB, nobodyB], s.size ≤ maxLen := by
    intro s hs
    simp only [List.mem_cons, List.not_mem_nil, or_false] at hs
    rcases hs with rfl | rfl <;> decide +kernel
  have hl2 : l.length ≤ maxLen := by rw [h2.out]; decide +kernel
  have cC := roles_Closed _ _ l [bossB, nobodyB] _ hR2 hl2 hS (by decide +kernel) hz
  refine cC.mono ?_
  rintro e w2 ⟨va, vc, ns, rfl, hO, hC, hb2⟩
  obtain rfl := two_boss hT hC
  rw [two_closed hT (by simp)]
  obtain ⟨g, rfl, -, -, hc, -⟩ := hO.cell (by simp)
  have z0 := hc 0 (.string bossB) rfl
  have z1 := hc 1 (.string clerkB) rfl
  have hB := Lib.hid ((hb.trans (hba.mono hb.size)).trans (hb2.mono (by have := hb.size; simp; omega)))
  clear hc hO hC hb2 hba hR hT hb h2 hle cC hS hR2 hz hl2
  go_wp2
  go_ret
  exact ⟨rfl, hB.out⟩
end Go.Proofs.YtkiepajhakoeiaaDoor
