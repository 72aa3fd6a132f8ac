/- roles.byName lays roles into a map by their names. -/
import Derived.Test.YtinijohmdljieaaGreatDoorChecked
import Derived.Test.YtinijohmdljieaaGreatDoorRoleData
import Derived.Deep.LoopGhost
namespace Go.Proofs.YtinijohmdljieaaGreatDoor
open Go.RowKit

theorem zeroRole (w : World) : (zeroValue 81).run Tryz.prog w = .ok (.agg #[.string ⟨#[]⟩, .slice none 0 0, .slice none 0 0]) w := by kernel_rfl

set_option maxHeartbeats 2000000 in
set_option maxRecDepth 100000 in
theorem roles_byName (v : Value) (l : List Rl) (w : World) (h : Rls w.heap.size w v l) (hl : l.length ≤ maxLen) :
    Calls Tryz.prog 52 #[v] w fun e w' => ∃ b, e = .returned (.map (some b)) ∧ w.heap.size ≤ b ∧ MapIs w' b (entsR (byNameL l)) ∧ Below w.heap.size w w' := by
  obtain ⟨a, c, b, o, rfl, hle, hC⟩ := h.cells
  have HC := Lib.hid hC
  unfold maxLen at hl
  clear h hC
  have hmm := @run_makeMap Tryz.prog
  go_enter Tryz.func52, Tryz.ntmps52
  go_wp2
  go_loopw [9] (fun i wr => ∃ k : Nat, k ≤ l.length ∧ i = .int .i64 k ∧ MapIs wr w.heap.size (entsR (byNameL (l.take k))) ∧ Below w.heap.size w wr) (fun i _ => l.length - (intOf i).toNat)
  case atStart => exact ⟨0, by omega, rfl, MapIs.made w, (Below.refl _ _).alloc (Nat.le_refl _) _⟩
  case round =>
    obtain ⟨k, hk, rfl, hM, hb⟩ := hrel
    by_cases hlt : k < l.length
    · obtain ⟨rfl, hbl⟩ := HC.out.at0 (by omega)
      have x0 := (hb.cell (p := ⟨b, o + k * 3, none⟩) hbl).trans (HC.out.c0 k hlt)
      have x1 := (hb.cell (p := ⟨b, o + k * 3 + 1, none⟩) hbl).trans (HC.out.c1 k hlt)
      have x2 := (hb.cell (p := ⟨b, o + k * 3 + 2, none⟩) hbl).trans (HC.out.c2 k hlt)
      have hkey := Lib.hid (HC.out.ok k hlt).name
      simp only [Rl.hv, Rl.mv] at x1 x2
      obtain ⟨w2, hu, hM2, hg2, -⟩ := (hM.alloc (.cells #[.string l[k].name, .slice l[k].ha l[k].holds.length l[k].hc, .slice l[k].ma l[k].may.length l[k].mc] 81)).update Tryz.underlying128 Tryz.underlying9 hkey.out l[k].val
      have hM3 : MapIs w2 w.heap.size (entsR (byNameL (l.take (k + 1)))) := by
        rw [byNameL_snoc l k hlt, ← putM_entsR]; exact hM2
      have hb2 : Below w.heap.size w w2 := (hb.alloc hb.size _).grown hg2 (by have := hb.size; simp; omega) (fun j hj => by cases hj; exact Nat.le_refl _)
      simp only [Rl.val] at hu
      clear hM hM2 hg2
      go_wp2
      go_roundw
      case rel => exact ⟨k + 1, by omega, by go_num, hM3, hb2⟩
      case measure => simp [intOf]; omega
    · go_wp2
      go_ret
      exact ⟨_, rfl, Nat.le_refl _, by rw [← byNameL_all l k (by omega)]; exact hM, hb⟩
end Go.Proofs.YtinijohmdljieaaGreatDoor
