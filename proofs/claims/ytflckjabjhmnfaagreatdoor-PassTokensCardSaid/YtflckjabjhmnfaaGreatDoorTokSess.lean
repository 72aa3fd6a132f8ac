/- pass.session. -/
import Derived.Test.YtflckjabjhmnfaaGreatDoorTok4
import Derived.Test.YtflckjabjhmnfaaGreatDoorNamedLow
namespace Go.Proofs.YtflckjabjhmnfaaGreatDoor
open Go.RowKit

abbrev sessV (i : Int) (n : ByteArray) (u : Int) : Value := .agg #[.int .i64 i, .string n, .int .i64 u]
abbrev sessO (i : Int) (n : ByteArray) (u : Int) : Obj := .cells #[.int .i64 i, .string n, .int .i64 u] 23
theorem box3 (w : World) (i : Int) (n : ByteArray) (u : Int) (W : World) (hb : Below (w.heap.size + 1) (w.alloc (sessO i n u)) W) :
    W.cell? ⟨w.heap.size, 0, none⟩ = some (.int .i64 i) ∧ W.cell? ⟨w.heap.size, 1, none⟩ = some (.string n) ∧ W.cell? ⟨w.heap.size, 2, none⟩ = some (.int .i64 u) := by
  refine ⟨?_, ?_, ?_⟩ <;> (rw [hb.cell (by simp)]; go_simp)
theorem sess_bools (i : Int) (n : ByteArray) (u : Int) : decide (sessB ⟨i, n.data.toList, u⟩) = (decide (0 ≤ i) && decide (i ≤ 2147483647) && named n.data.toList && decide (0 ≤ u) && decide (u ≤ 1099511627776)) := by
  rw [Bool.eq_iff_iff, decide_eq_true_iff]
  simp [sessB, and_assoc]

set_option maxHeartbeats 2000000 in
set_option maxRecDepth 100000 in
theorem session_walk (i : Int) (n : ByteArray) (u : Int) (w : World) (hn : n.size ≤ maxLen) :
    Calls Tryz.prog 10 #[sessV i n u] w fun e w' => e = .returned (.bool (decide (sessB ⟨i, n.data.toList, u⟩))) ∧ Below w.heap.size w w' := by
  have HN := Lib.hid (fun W => pass_named n W hn)
  have HB0 : Hid (Below w.heap.size w (w.alloc (sessO i n u))) := (Below.refl _ _).alloc (Nat.le_refl _) _
  have HZ0 : Hid ((w.alloc (sessO i n u)).heap.size = w.heap.size + 1) := by show _ = _; simp
  have HX := Lib.hid (box3 w i n u)
  rw [sess_bools]
  generalize named n.data.toList = b3 at *
  generalize hb1 : decide (0 ≤ i) = b1
  generalize hb2 : decide (i ≤ 2147483647) = b2
  generalize hb4 : decide (0 ≤ u) = b4
  generalize hb5 : decide (u ≤ 1099511627776) = b5
  clear hn
  cases b1
  · go_enter Tryz.func10, Tryz.ntmps10
    go_wp2_with fail
    go_ret
    exact ⟨rfl, HB0.out⟩
  cases b2
  · go_enter Tryz.func10, Tryz.ntmps10
    go_wp2_with fail
    go_ret
    exact ⟨rfl, HB0.out⟩
  go_enter Tryz.func10, Tryz.ntmps10
  go_wp2_with fail
  refine (HN.out _).mono ?_
  rintro e w1 ⟨rfl, hb1⟩
  rw [HZ0.out] at hb1
  obtain ⟨x0, x1, x2⟩ := HX.out w1 hb1
  have HB1 : Hid (Below w.heap.size w w1) := HB0.out.trans (hb1.mono (by omega))
  clear hb1 HB0 HX HZ0
  cases b3
  · go_wp2_with fail
    go_ret
    exact ⟨rfl, HB1.out⟩
  cases b4
  · go_wp2_with fail
    go_ret
    exact ⟨rfl, HB1.out⟩
  cases b5 <;>
  · go_wp2_with fail
    go_ret
    exact ⟨rfl, HB1.out⟩
end Go.Proofs.YtflckjabjhmnfaaGreatDoor
