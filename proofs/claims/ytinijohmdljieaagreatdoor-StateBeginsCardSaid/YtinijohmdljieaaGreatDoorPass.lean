/- hash.Pass. -/
import Derived.Test.YtinijohmdljieaaGreatDoorSame
namespace Go.Proofs.YtinijohmdljieaaGreatDoor
open Go.RowKit

set_option maxHeartbeats 4000000 in
set_option maxRecDepth 100000 in
theorem Pass_walk (s p : ByteArray) (n : Nat) (w : World) (hs : s.size ≤ 16384) (hp : p.size ≤ 16384) (hn : 0 < n) (hn2 : n ≤ 64) :
    Calls Tryz.prog 102 #[.string s, .string p, .int .i64 n] w fun e w' => e = .returned (.tuple #[.string ⟨(passB s.data.toList p.data.toList n).toArray⟩, .int .i64 0]) ∧ Below w.heap.size w w' := by
  obtain ⟨va, c, w1, hcv, hb1, hbw1, hz1⟩ := bytesOf w p
  have HB1 : Hid (Bytes w1.heap.size w1 (.slice va p.size c) p.data.toList) := by show Bytes _ _ _ _; rw [hz1]; exact hb1
  have HW1 := Lib.hid hbw1
  have q1 : ¬ (16384 : Int) < s.size := by omega
  have q2 : ¬ (16384 : Int) < p.size := by omega
  have q3 : ¬ (n : Int) < 1 := by omega
  have q4 : ¬ (64 : Int) < n := by omega
  clear hb1 hbw1 hz1
  go_enter Tryz.func102, Tryz.ntmps102
  go_wp2
  clear hcv
  have hz1 : w.heap.size ≤ w1.heap.size := HW1.out.size
  go_loopw [8, 25] (fun t i wr => ∃ (k : Nat) (a : Option Addr) (m c : Nat), k ≤ n ∧ i = .int .i64 k ∧ t = .slice a m c ∧ Hid (Bytes wr.heap.size wr (.slice a m c) (iter s.data.toList k p.data.toList)) ∧ Hid (Below w.heap.size w wr)) (fun _ i _ => n - (intOf i).toNat)
  case atStart => exact ⟨0, va, p.size, c, by omega, rfl, rfl, HB1, HW1⟩
  case round =>
    clear HB1 HW1 hz1
    obtain ⟨k, a, m, c, hk, rfl, rfl, hX, hB⟩ := hrel
    by_cases hlt : k < n
    · obtain ⟨vs, cs, w2, hcv, hb2, hbw2, hz2⟩ := bytesOf wr s
      have HB2 : Hid (Bytes w2.heap.size w2 (.slice vs s.size cs) s.data.toList) := by show Bytes _ _ _ _; rw [hz2]; exact hb2
      have HX2 : Hid (Bytes w2.heap.size w2 (.slice a m c) (iter s.data.toList k p.data.toList)) := Row.mono (hX.out.below hbw2) hbw2.size
      have HW2 : Hid (Below w.heap.size w w2) := hB.out.trans (hbw2.mono hB.out.size)
      have HI := Lib.hid (iter_len s.data.toList k p.data.toList)
      obtain ⟨D, hD⟩ : ∃ D, iter s.data.toList (k + 1) p.data.toList = D := ⟨_, rfl⟩
      have HDL : Hid (D.length = 32) := by show _ = _; rw [← hD]; exact iter_len1 _ _ _ (by omega)
      have HSL := Lib.hid (Sealed_walk _ _ _ _ w2 HB2.out HX2.out (by rw [ba_len]; omega) (by have := HI.out; rw [ba_len] at this; omega))
      rw [show sealW s.data.toList (iter s.data.toList k p.data.toList) = D from hD] at HSL
      have HD := Lib.hid hD
      clear hb2 hbw2 hz2 hX hB hD HX2 HB2 HI
      have tok1 : True := trivial
      go_wp2_with fail
      refine HSL.out.mono ?_
      rintro e w3 ⟨rfl, hb3⟩
      have HW3 := Lib.hid (HW2.out.trans (hb3.mono HW2.out.size))
      have HT := Lib.hid (store32 w3 D HDL.out)
      clear hb3 HSL HW2
      go_wp2_with (have _t := tok1; refine wpList_store_mid (by rfl) 214 _ _ (by rfl) w3.heap.size 0 (D.map bv).toArray (by rfl) (by rfl) HT.out.1 (info32 HDL.out) (bytes_one D) ?_; clear tok1 _t; generalize hW : World.setCells _ w3.heap.size 0 (D.map bv).toArray.toList = wz; have hA1 : Hid (Arr wz w3.heap.size 214 (D.map bv)) := (by rw [← hW]; exact HT.out.2.1 : Arr _ _ _ _); have hB3 : Hid (Below w3.heap.size w3 wz) := (by rw [← hW]; exact HT.out.2.2.1 : Below _ _ _); clear hW HT)
      have HBB : Hid (Bytes wz.heap.size wz (.slice (some ⟨w3.heap.size, 0, none⟩) 32 32) (iter s.data.toList (k + 1) p.data.toList)) := by
        show Bytes _ _ _ _
        rw [HD.out]; exact hA1.out.bytes HDL.out hA1.out.lt
      have HWZ := Lib.hid (HW3.out.trans (hB3.out.mono HW3.out.size))
      clear hA1 hB3 HW3
      go_wp2
      go_roundw
      case rel => exact ⟨k + 1, _, _, _, by omega, by go_num, rfl, HBB, HWZ⟩
      case measure => simp [intOf]; omega
    · obtain rfl : k = n := by omega
      have HX := Lib.hid (Hex_walk _ _ wr hX.out (by have := iter_len s.data.toList k p.data.toList; rw [ba_len] at this; omega))
      have hz := hB.out.size
      clear hX
      go_wp2_with fail
      refine HX.out.mono ?_
      rintro e w3 ⟨rfl, hb3⟩
      have HB3 := Lib.hid (hB.out.trans (hb3.mono hz))
      clear hb3
      go_wp2
      go_ret2
      exact ⟨rfl, HB3.out⟩
end Go.Proofs.YtinijohmdljieaaGreatDoor
