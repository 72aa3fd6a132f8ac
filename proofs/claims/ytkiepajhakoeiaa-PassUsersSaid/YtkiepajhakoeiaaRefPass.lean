/- docketref14.Pass. -/
import Derived.Test.YtkiepajhakoeiaaRefHex
namespace Go.Proofs.Ytkiepajhakoeiaa
open Go.RowKit

set_option maxHeartbeats 4000000 in
set_option maxRecDepth 100000 in
theorem refPass_walk (s p : ByteArray) (n : Nat) (w : World) (hs : s.size ≤ 16384) (hp : p.size ≤ 16384) (hn : 0 < n) (hn2 : n ≤ 64) :
    Calls Try.prog 20 #[.string s, .string p, .int .i64 n] w fun e w' => e = .returned (.tuple #[.string ⟨(passB s.data.toList p.data.toList n).toArray⟩, .int .i64 0]) ∧ Below w.heap.size w w' := by
  obtain ⟨va, c, w1, hcv, hb1, hbw1, hz1⟩ := bytesOf w p
  have HB1 : Hid (Bytes (w1.heap.size + 1) (w1.alloc (.cells (List.replicate 32 (bv 0)).toArray 49)) (.slice va p.size c) p.data.toList) := Row.mono (hb1.below ((Below.refl _ _).alloc (by omega) _)) (by omega)
  have HD1 := Lib.hid (new32 w1)
  have HW1 : Hid (Below w.heap.size w (w1.alloc (.cells (List.replicate 32 (bv 0)).toArray 49))) := hbw1.alloc hbw1.size _
  have hwz : w.heap.size ≤ w1.heap.size := hbw1.size
  have q1 : ¬ (16384 : Int) < s.size := by omega
  have q2 : ¬ (16384 : Int) < p.size := by omega
  have q3 : ¬ (n : Int) < 1 := by omega
  have q4 : ¬ (64 : Int) < n := by omega
  clear hb1 hbw1 hz1
  go_enter Try.func20, Try.ntmps20
  go_wp2
  clear hcv
  have HS1 : Hid ((w1.alloc (.cells (List.replicate 32 (bv 0)).toArray 49)).heap.size = w1.heap.size + 1) := by show _ = _; simp
  generalize hgd : w1.heap.size = gd at *
  go_loopw [8, 10] (fun t i wr => ∃ (k : Nat) (a : Option Addr) (m c : Nat) (ds : List Value), k ≤ n ∧ i = .int .i64 k ∧ t = .slice a m c ∧ ds.length = 32 ∧ Hid (Bytes wr.heap.size wr (.slice a m c) (iter s.data.toList k p.data.toList)) ∧ Hid (Arr wr gd 49 ds) ∧ Hid (Below w.heap.size w wr)) (fun _ i _ => n - (intOf i).toNat)
  case atStart => exact ⟨0, va, p.size, c, _, by omega, rfl, rfl, by simp, Row.mono HB1.out (Nat.le_of_eq HS1.out.symm), HD1, HW1⟩
  case round =>
    clear HB1 HW1 HD1 HS1
    obtain ⟨k, a, m, c, ds, hk, rfl, rfl, hdl, hX, hA, hB⟩ := hrel
    by_cases hlt : k < n
    · obtain ⟨vs, cs, w2, hcv, hb2, hbw2, hz2⟩ := bytesOf wr s
      have HB2 : Hid (Bytes w2.heap.size w2 (.slice vs s.size cs) s.data.toList) := by show Bytes _ _ _ _; rw [hz2]; exact hb2
      have HX2 : Hid (Bytes w2.heap.size w2 (.slice a m c) (iter s.data.toList k p.data.toList)) := Row.mono (hX.out.below hbw2) hbw2.size
      have HW2 : Hid (Below w.heap.size w w2) := hB.out.trans (hbw2.mono hB.out.size)
      have HA2 := Lib.hid (hA.out.below hbw2 hA.out.lt)
      have HI := Lib.hid (iter_len s.data.toList k p.data.toList)
      obtain ⟨D, hD⟩ : ∃ D, iter s.data.toList (k + 1) p.data.toList = D := ⟨_, rfl⟩
      have HDL : Hid (D.length = 32) := by show _ = _; rw [← hD]; exact iter_len1 _ _ _ (by omega)
      have HSL := Lib.hid (refSealed_walk _ _ _ _ w2 HB2.out HX2.out (by rw [ba_len]; omega) (by have := HI.out; rw [ba_len] at this; omega))
      rw [show sealW s.data.toList (iter s.data.toList k p.data.toList) = D from hD] at HSL
      have HD := Lib.hid hD
      clear hb2 hbw2 hz2 hX hA hB hD HX2 HB2 HI
      have tok1 : True := trivial
      go_wp2_with fail
      refine HSL.out.mono ?_
      rintro e w3 ⟨rfl, hb3⟩
      have HW3 := Lib.hid (HW2.out.trans (hb3.mono HW2.out.size))
      have HA3 := Lib.hid (HA2.out.below hb3 HA2.out.lt)
      have HT := Lib.hid (HA3.out.there (n := (D.map bv).toArray.size) (by simp [HDL.out, hdl]))
      have HS3 := Lib.hid (HA3.out.store (new := (D.map bv).toArray.toList) (by simp [HDL.out, hdl]))
      have HB3 := Lib.hid (below_cells (b := gd) (B := w.heap.size) (by omega) (D.map bv).toArray.toList 0 HW3.out)
      clear hb3 HSL HW2 HA2 HA3 HW3
      go_wp2_with (have _t := tok1; refine wpList_store_mid (by rfl) 49 _ _ (by rfl) gd 0 (D.map bv).toArray (by rfl) (by rfl) HT.out (info32 HDL.out) (bytes_one D) ?_; clear tok1 _t; generalize hW : World.setCells _ gd 0 (D.map bv).toArray.toList = wz; have hA1 : Hid (Arr wz gd 49 (D.map bv)) := (by rw [← hW]; exact HS3.out : Arr _ _ _ _); have hB3 : Hid (Below w.heap.size w wz) := (by rw [← hW]; exact HB3.out : Below _ _ _); clear hW HT HS3 HB3)
      obtain ⟨wo, rfl⟩ : ∃ wo : World, wo = wr := ⟨_, rfl⟩
      go_loopw [8, 11] (fun t i wr => ∃ (j : Nat) (vb : Option Addr) (vd m : Nat), j ≤ 32 ∧ i = .int .i64 j ∧ t = .slice vb m vd ∧ Hid (Gr wz wr vb vd m (D.take j))) (fun _ i _ => 32 - (intOf i).toNat)
      case atStart => exact ⟨0, none, 0, 0, by omega, rfl, rfl, Gr.nil wz⟩
      case round =>
        obtain ⟨j, vb, vd, m, hj, rfl, rfl, hG⟩ := hrel
        by_cases hlj : j < 32
        · have hjl : j < D.length := by rw [HDL.out]; exact hlj
          have c0 := (hA1.out.below hG.out.2.2 hA1.out.lt).cell (j := j) (by simpa using hjl)
          rw [List.getElem_map] at c0
          have hnn := hG.out.1
          rw [List.length_take] at hnn
          obtain ⟨y, hy⟩ : ∃ y, D[j] = y := ⟨_, rfl⟩
          have HS1 : Hid (D.take (j + 1) = D.take j ++ [y]) := by show _ = _; rw [List.take_succ_eq_append_getElem hjl, hy]
          obtain ⟨vb', vd', w5, ap5, hG5⟩ := hG.out.push y (bv y) rfl (by omega)
          rw [← HS1.out] at hG5
          rw [hy] at c0
          obtain ⟨z, hz⟩ : ∃ z : Int, (y.toNat : Int) = z := ⟨_, rfl⟩
          rw [bv, hz] at c0 ap5
          have HAP5 := Lib.hid ap5; have HG5 := Lib.hid hG5
          have i1 : (0 : Int) ≤ (j : Int) := by omega
          have i2 : (j : Int) < 32 := by omega
          clear hz hy hG ap5 hG5 hnn hjl HS1
          go_wp2_with (at_builtin; refine wpList_append_run (by rfl) (.tmp 41) (.tmp 45) 48 (by rfl) (by rfl) (by rfl) HAP5.out ?_)
          go_roundw
          case rel => exact ⟨j + 1, vb', vd', m + 1, by omega, by go_num, rfl, HG5⟩
          case measure => simp [intOf]; omega
        · have hj32 : 32 ≤ j := by omega
          have HG : Hid (Gr wz wr vb vd m D) := by
            have h1 := hG.out
            rw [List.take_of_length_le (by rw [HDL.out]; omega)] at h1
            exact h1
          have HBB : Hid (Bytes wr.heap.size wr (.slice vb m vd) (iter s.data.toList (k + 1) p.data.toList)) := by show Bytes _ _ _ _; rw [HD.out]; exact HG.out.bytes
          have HAF := Lib.hid (hA1.out.below HG.out.2.2 hA1.out.lt)
          have HBF := Lib.hid (hB3.out.trans (HG.out.2.2.mono hB3.out.size))
          clear hG HG hA1 hB3
          go_wp2
          go_roundw
          case rel => exact ⟨k + 1, _, _, _, _, by omega, by go_num, rfl, by simp [HDL.out], HBB, HAF, HBF⟩
          case measure => simp [intOf]; omega
    · obtain rfl : k = n := by omega
      have HX := Lib.hid (refHex_walk _ _ wr hX.out (by have := iter_len s.data.toList k p.data.toList; rw [ba_len] at this; omega))
      have hz := hB.out.size
      clear hX
      go_wp2_with fail
      refine HX.out.mono ?_
      rintro e w3 ⟨rfl, hb3⟩
      have HB3 := Lib.hid (hB.out.trans (hb3.mono hz))
      clear hb3
      go_wp2
      go_ret2
      exact ⟨rfl, HB3.out⟩
end Go.Proofs.Ytkiepajhakoeiaa
