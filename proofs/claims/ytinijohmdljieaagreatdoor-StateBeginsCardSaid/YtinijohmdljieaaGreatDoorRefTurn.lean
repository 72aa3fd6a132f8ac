/- docketref14: turn, word, first, steps. -/
import Derived.Test.YtinijohmdljieaaGreatDoorFirst
namespace Go.Proofs.YtinijohmdljieaaGreatDoor
open Go.RowKit

theorem bits_or_comm (k : IntKind) (a b : Int) : bits .or k a b = bits .or k b a := by
  show k.wrap ((BitVec.ofInt k.bits a ||| BitVec.ofInt k.bits b).toNat : Int) = k.wrap ((BitVec.ofInt k.bits b ||| BitVec.ofInt k.bits a).toNat : Int)
  rw [BitVec.or_comm]
set_option maxHeartbeats 1000000 in
theorem turn_walk (n : Nat) (h0 : 0 < n) (h1 : n < 32) (x : Int) (w : World) : Calls Tryz.prog 211 #[.int .u32 x, .int .u32 n] w fun e w' => e = .returned (.int .u32 (ror x n)) ∧ w' = w := by
  have hb : IntKind.u32.wrap (32 - (n : Int)) = ((32 - n : Nat) : Int) := by rw [wrap_u32 (by omega) (by omega)]; omega
  have i1 : (0 : Int) ≤ (n : Int) := by omega
  have i2 : (n : Int) < 32 := by omega
  have e1 : (32 : Int) - (n : Int) = ((32 - n : Nat) : Int) := by omega
  go_enter Tryz.func211, Tryz.ntmps211
  go_wp2
  go_ret
  refine ⟨?_, rfl⟩
  rw [ror, bits_or_comm]
  simp
theorem turn_any (x z : Int) (h : 0 < z ∧ z < 32) (w : World) : Calls Tryz.prog 211 #[.int .u32 x, .int .u32 z] w fun e w' => e = .returned (.int .u32 (rorZ x z)) ∧ w' = w := by
  have := turn_walk z.toNat (by omega) (by omega) x w
  rwa [show ((z.toNat : Nat) : Int) = z by omega] at this

set_option maxHeartbeats 2000000 in
set_option maxRecDepth 100000 in
theorem word_walk (bb bo c n k : Nat) (m0 m1 m2 m3 : Int) (w : World) (hk : 4 * k + 3 < n) (hn : n ≤ 1048576)
    (x0 : w.cell? ⟨bb, bo + 4 * k, none⟩ = some (.int .u8 m0)) (x1 : w.cell? ⟨bb, bo + (4 * k + 1), none⟩ = some (.int .u8 m1)) (x2 : w.cell? ⟨bb, bo + (4 * k + 2), none⟩ = some (.int .u8 m2)) (x3 : w.cell? ⟨bb, bo + (4 * k + 3), none⟩ = some (.int .u8 m3))
    (r0 : 0 ≤ m0 ∧ m0 < 256) (r1 : 0 ≤ m1 ∧ m1 < 256) (r2 : 0 ≤ m2 ∧ m2 < 256) (r3 : 0 ≤ m3 ∧ m3 < 256) :
    Calls Tryz.prog 210 #[.slice (some ⟨bb, bo, none⟩) n c, .int .i64 (4 * (k : Int))] w fun e w' => e = .returned (vw (word4 m0 m1 m2 m3)) ∧ ∃ q, w' = w.drewN q := by
  have g1 : (0 : Int) ≤ 4 * (k : Int) := by omega
  have g2 : 4 * (k : Int) < (n : Int) := by omega
  have g3 : 4 * (k : Int) + 1 < (n : Int) := by omega
  have g4 : 4 * (k : Int) + 2 < (n : Int) := by omega
  have g5 : 4 * (k : Int) + 3 < (n : Int) := by omega
  have q2 : (0 : Int) ≤ 4 * (k : Int) + 1 := by omega
  have q3 : (0 : Int) ≤ 4 * (k : Int) + 2 := by omega
  have q4 : (0 : Int) ≤ 4 * (k : Int) + 3 := by omega
  have u2 : IntKind.i64.wrap (4 * (k : Int) + 1) = 4 * (k : Int) + 1 := wrap_i64 (by omega) (by omega)
  have u3 : IntKind.i64.wrap (4 * (k : Int) + 2) = 4 * (k : Int) + 2 := wrap_i64 (by omega) (by omega)
  have u4 : IntKind.i64.wrap (4 * (k : Int) + 3) = 4 * (k : Int) + 3 := wrap_i64 (by omega) (by omega)
  have t1 : (4 * (k : Int)).toNat = 4 * k := by omega
  have t2 : (4 * (k : Int) + 1).toNat = 4 * k + 1 := by omega
  have t3 : (4 * (k : Int) + 2).toNat = 4 * k + 2 := by omega
  have t4 : (4 * (k : Int) + 3).toNat = 4 * k + 3 := by omega
  have v0 : IntKind.u32.wrap m0 = m0 := wrap_u32 (by omega) (by omega)
  have v1 : IntKind.u32.wrap m1 = m1 := wrap_u32 (by omega) (by omega)
  have v2 : IntKind.u32.wrap m2 = m2 := wrap_u32 (by omega) (by omega)
  have v3 : IntKind.u32.wrap m3 = m3 := wrap_u32 (by omega) (by omega)
  have v4 : IntKind.u32.wrap (m0 * 16777216) = m0 * 16777216 := wrap_u32 (by omega) (by omega)
  have v5 : IntKind.u32.wrap (m1 * 65536) = m1 * 65536 := wrap_u32 (by omega) (by omega)
  have v6 : IntKind.u32.wrap (m2 * 256) = m2 * 256 := wrap_u32 (by omega) (by omega)
  go_enter Tryz.func210, Tryz.ntmps210
  go_wp2
  go_quiet (fail)
  go_wp2
  go_ret
  exact ⟨rfl, _, rfl⟩

theorem refFirst_walk (w : World) : Calls Tryz.prog 194 #[] w fun e w' => e = .returned (.agg hArr) ∧ Below w.heap.size w w' := by
  go_enter Tryz.func194, Tryz.ntmps194
  go_wp2
  exact ret_arr Tryz.results194 rfl rfl (Arr.new w (H0.map vw) 274) Tryz.underlying274 rfl (by kernel_rfl) ⟨rfl, (Below.refl _ _).alloc (Nat.le_refl _) _⟩
set_option maxHeartbeats 1000000 in
set_option maxRecDepth 100000 in
theorem refSteps_walk (w : World) : Calls Tryz.prog 195 #[] w fun e w' => e = .returned (.agg kArr) ∧ Below w.heap.size w w' := by
  have hA0 : Arr (w.alloc (.cells (List.replicate 64 (vw 0)).toArray 277)) w.heap.size 277 (List.replicate 64 (vw 0)) := Arr.new w _ _
  have HT : Hid ((w.alloc (.cells (List.replicate 64 (vw 0)).toArray 277)).there w.heap.size 0 kArr.size) := hA0.there (by simp [kArr, K64])
  have HI : Hid ((Tryz.prog.info? 277).map (·.size) = some kArr.size) := by show _ = _; kernel_rfl
  have HO : Hid (kArr.all (·.oneCell') = true) := all_oneCell_toArray (by intro v hv; obtain ⟨x, -, rfl⟩ := List.mem_map.1 hv; rfl)
  have HA := Lib.hid hA0
  have HB : Hid (Below w.heap.size w (w.alloc (.cells (List.replicate 64 (vw 0)).toArray 277))) := (Below.refl _ _).alloc (Nat.le_refl _) _
  clear hA0
  go_enter Tryz.func195, Tryz.ntmps195
  go_wp2_with (first | (refine wpList_build_known (by rfl) 277 _ (by rfl) (v := .agg kArr) (fun W => by kernel_rfl) ?_) | (refine wpList_store_mid (by rfl) 277 _ _ (by rfl) w.heap.size 0 kArr (by rfl) (by rfl) HT.out HI.out HO.out ?_))
  have h1 := HA.out.store (new := kArr.toList) (by simp [kArr, K64])
  have h2 := below_cells (b := w.heap.size) (Nat.le_refl _) kArr.toList 0 HB.out
  go_wp2
  exact ret_arr Tryz.results195 rfl rfl h1 Tryz.underlying277 rfl (by kernel_rfl) ⟨rfl, h2⟩
end Go.Proofs.YtinijohmdljieaaGreatDoor
