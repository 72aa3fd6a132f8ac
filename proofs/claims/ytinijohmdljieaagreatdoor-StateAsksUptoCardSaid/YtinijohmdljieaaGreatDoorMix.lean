/- (*hash.words).mix: 64 bytes taken in. -/
import Derived.Test.YtinijohmdljieaaGreatDoorH02
import Derived.Deep.RegionHeld3
import Derived.Deep.DrawnRows
import Derived.RegionTactic
namespace Go.Proofs.YtinijohmdljieaaGreatDoor
open Go.RowKit

set_option maxHeartbeats 6000000 in
set_option maxRecDepth 100000 in
theorem mix_walk (gh gk bb bo c n : Nat) (hs ks m : List Int) (w : World) (hh : Arr w gh 275 (hs.map vw)) (hk : Arr w gk 277 (ks.map vw)) (hl : hs.length = 8) (kl : ks.length = 64) (ml : m.length = 64) (hn : 64 ≤ n) (hn2 : n ≤ 1048576)
    (hbb : bb < w.heap.size) (hm : ∀ j (h : j < 64), w.cell? ⟨bb, bo + j, none⟩ = some (.int .u8 (m[j]))) (hr : ∀ x ∈ m, 0 ≤ x ∧ x < 256) :
    Calls Tryz.prog 193 #[.pointer (some ⟨gh, 0, none⟩), .slice (some ⟨bb, bo, none⟩) n c, .pointer (some ⟨gk, 0, none⟩)] w fun e w' => e = .returned (.tuple #[]) ∧ Arr w' gh 275 ((mixed8 hs ks m).map vw) ∧ w.grownBy w' (some gh) := by
  go_enter Tryz.func193, Tryz.ntmps193
  go_wp2
  have hA0 : Arr (w.alloc (.cells (List.replicate 64 (vw 0)).toArray 277)) w.heap.size 277 ((List.replicate 64 (0 : Int)).map vw) := Arr.new w _ _
  have hb0 : Below w.heap.size w (w.alloc (.cells (List.replicate 64 (vw 0)).toArray 277)) := (Below.refl _ _).alloc (Nat.le_refl _) _
  have HM := Lib.hid hm; have HR := Lib.hid hr
  have hgh := hh.lt
  have hgk := hk.lt
  have HH := Lib.hid hh; have HK := Lib.hid hk
  clear hm hr hh hk
  go_loopw [19] (fun i wr => ∃ (k : Nat) (ws : List Int), k ≤ 64 ∧ i = .int .i64 k ∧ ws.length = 64 ∧ Hid (ws.take k = wk m k) ∧ Hid (Arr wr w.heap.size 277 (ws.map vw)) ∧ Hid (Below w.heap.size w wr)) (fun i _ => 64 - (intOf i).toNat)
  case atStart => exact ⟨0, List.replicate 64 0, by omega, rfl, by simp, rfl, hA0, hb0⟩
  case round =>
    obtain ⟨k, ws, hk, rfl, hwl, hW, hA, hB⟩ := hrel
    by_cases hlt : k < 64
    · by_cases h16 : k < 16
      · have g1 : (0 : Int) ≤ 4 * (k : Int) := by omega
        have g2 : 4 * (k : Int) < (n : Int) := by omega
        have g3 : 4 * (k : Int) + 1 < (n : Int) := by omega
        have g4 : 4 * (k : Int) + 2 < (n : Int) := by omega
        have g5 : 4 * (k : Int) + 3 < (n : Int) := by omega
        have q2 : (0 : Int) ≤ 4 * (k : Int) + 1 := by omega
        have q3 : (0 : Int) ≤ 4 * (k : Int) + 2 := by omega
        have q4 : (0 : Int) ≤ 4 * (k : Int) + 3 := by omega
        have n1 : 4 * k < n := by omega
        have n2 : 4 * k + 1 < n := by omega
        have n3 : 4 * k + 2 < n := by omega
        have n4 : 4 * k + 3 < n := by omega
        have u1 : IntKind.i64.wrap (4 * (k : Int)) = 4 * (k : Int) := wrap_i64 (by omega) (by omega)
        have u2 : IntKind.i64.wrap (4 * (k : Int) + 1) = 4 * (k : Int) + 1 := wrap_i64 (by omega) (by omega)
        have u3 : IntKind.i64.wrap (4 * (k : Int) + 2) = 4 * (k : Int) + 2 := wrap_i64 (by omega) (by omega)
        have u4 : IntKind.i64.wrap (4 * (k : Int) + 3) = 4 * (k : Int) + 3 := wrap_i64 (by omega) (by omega)
        have t1 : (4 * (k : Int)).toNat = 4 * k := by omega
        have t2 : (4 * (k : Int) + 1).toNat = 4 * k + 1 := by omega
        have t3 : (4 * (k : Int) + 2).toNat = 4 * k + 2 := by omega
        have t4 : (4 * (k : Int) + 3).toNat = 4 * k + 3 := by omega
        have x0 := (hB.out.cell (p := ⟨bb, bo + 4 * k, none⟩) hbb).trans (HM.out (4 * k) (by omega))
        have x1 := (hB.out.cell (p := ⟨bb, bo + (4 * k + 1), none⟩) hbb).trans (HM.out (4 * k + 1) (by omega))
        have x2 := (hB.out.cell (p := ⟨bb, bo + (4 * k + 2), none⟩) hbb).trans (HM.out (4 * k + 2) (by omega))
        have x3 := (hB.out.cell (p := ⟨bb, bo + (4 * k + 3), none⟩) hbb).trans (HM.out (4 * k + 3) (by omega))
        have y0 := hA.out.cell (j := k) (by simp [hwl]; omega)
        have y1 := hA.out.frozen k
        have hbw : bb ≠ w.heap.size := by omega
        rw [List.getElem_map] at y0
        obtain ⟨m0, hm0⟩ : ∃ z, m[4 * k]'(by omega) = z := ⟨_, rfl⟩
        obtain ⟨m1, hm1⟩ : ∃ z, m[4 * k + 1]'(by omega) = z := ⟨_, rfl⟩
        obtain ⟨m2, hm2⟩ : ∃ z, m[4 * k + 2]'(by omega) = z := ⟨_, rfl⟩
        obtain ⟨m3, hm3⟩ : ∃ z, m[4 * k + 3]'(by omega) = z := ⟨_, rfl⟩
        obtain ⟨r00, r01⟩ := HR.out m0 (hm0 ▸ List.getElem_mem _)
        obtain ⟨r10, r11⟩ := HR.out m1 (hm1 ▸ List.getElem_mem _)
        obtain ⟨r20, r21⟩ := HR.out m2 (hm2 ▸ List.getElem_mem _)
        obtain ⟨r30, r31⟩ := HR.out m3 (hm3 ▸ List.getElem_mem _)
        have v0 : IntKind.u32.wrap m0 = m0 := wrap_u32 (by omega) (by omega)
        have v1 : IntKind.u32.wrap m1 = m1 := wrap_u32 (by omega) (by omega)
        have v2 : IntKind.u32.wrap m2 = m2 := wrap_u32 (by omega) (by omega)
        have v3 : IntKind.u32.wrap m3 = m3 := wrap_u32 (by omega) (by omega)
        have v4 : IntKind.u32.wrap (m0 * 16777216) = m0 * 16777216 := wrap_u32 (by omega) (by omega)
        have v5 : IntKind.u32.wrap (m1 * 65536) = m1 * 65536 := wrap_u32 (by omega) (by omega)
        have v6 : IntKind.u32.wrap (m2 * 256) = m2 * 256 := wrap_u32 (by omega) (by omega)
        rw [hm0] at x0
        rw [hm1] at x1
        rw [hm2] at x2
        rw [hm3] at x3
        have HM0 := Lib.hid hm0; have HM1 := Lib.hid hm1; have HM2 := Lib.hid hm2; have HM3 := Lib.hid hm3
        obtain ⟨old, hold⟩ : ∃ z, ws[k]'(by omega) = z := ⟨_, rfl⟩
        rw [hold] at y0
        clear hm0 hm1 hm2 hm3 hold
        have HNX : Hid ((ws.set k (word4 m0 m1 m2 m3)).take (k + 1) = wk m (k + 1)) := by
          show _ = _
          rw [take_set_snoc (by omega), hW.out, wk, wkNext, if_pos h16, getD_at (by omega), getD_at (by omega), getD_at (by omega), getD_at (by omega), HM0.out, HM1.out, HM2.out, HM3.out]
        have HWL := Lib.hid hwl
        clear hwl
        go_wp2
        go_region_held3 (fun w' => w'.cell? ⟨bb, bo + 4 * k, none⟩ = some (.int .u8 m0) ∧ w'.cell? ⟨bb, bo + (4 * k + 1), none⟩ = some (.int .u8 m1) ∧ w'.cell? ⟨bb, bo + (4 * k + 2), none⟩ = some (.int .u8 m2) ∧ w'.cell? ⟨bb, bo + (4 * k + 3), none⟩ = some (.int .u8 m3)) (first | (go_keep; done) | exact ⟨cell_far x0 hbw, cell_far x1 hbw, cell_far x2 hbw, cell_far x3 hbw⟩) (fail)
        go_wp2
        go_roundw
        case rel => exact ⟨k + 1, ws.set k (word4 m0 m1 m2 m3), by omega, by go_num, by rw [List.length_set]; exact HWL.out, HNX, by rw [List.map_set]; exact (hA.out.set k _).drew, (hB.out.setCell (p := ⟨w.heap.size, k, none⟩) (Nat.le_refl _) _).drew⟩
        case measure => simp [intOf]; omega
      · obtain ⟨p15, hp15⟩ : ∃ p : Nat, (k : Int) - 15 = p := ⟨k - 15, by omega⟩
        have y15 := hA.out.cell (j := p15) (by simp [hwl]; omega)
        rw [List.getElem_map] at y15
        obtain ⟨z15, hz15⟩ : ∃ z, ws[p15]'(by omega) = z := ⟨_, rfl⟩
        rw [hz15] at y15
        have H_15 : Hid (ws.getD p15 0 = z15) := by
          show _ = _
          rw [List.getD_eq_getElem?_getD, List.getElem?_eq_getElem (by omega)]
          exact hz15
        clear hz15
        have b15 : (p15 : Int) < 64 := by omega
        have e15 : IntKind.i64.wrap ((k : Int) - 15) = (p15 : Int) := by rw [wrap_i64 (by omega) (by omega)]; exact hp15
        have f15 : IntKind.i64.wrap (p15 : Int) = (p15 : Int) := wrap_i64 (by omega) (by omega)
        obtain ⟨p2, hp2⟩ : ∃ p : Nat, (k : Int) - 2 = p := ⟨k - 2, by omega⟩
        have y2 := hA.out.cell (j := p2) (by simp [hwl]; omega)
        rw [List.getElem_map] at y2
        obtain ⟨z2, hz2⟩ : ∃ z, ws[p2]'(by omega) = z := ⟨_, rfl⟩
        rw [hz2] at y2
        have H_2 : Hid (ws.getD p2 0 = z2) := by
          show _ = _
          rw [List.getD_eq_getElem?_getD, List.getElem?_eq_getElem (by omega)]
          exact hz2
        clear hz2
        have b2 : (p2 : Int) < 64 := by omega
        have e2 : IntKind.i64.wrap ((k : Int) - 2) = (p2 : Int) := by rw [wrap_i64 (by omega) (by omega)]; exact hp2
        have f2 : IntKind.i64.wrap (p2 : Int) = (p2 : Int) := wrap_i64 (by omega) (by omega)
        obtain ⟨p16, hp16⟩ : ∃ p : Nat, (k : Int) - 16 = p := ⟨k - 16, by omega⟩
        have y16 := hA.out.cell (j := p16) (by simp [hwl]; omega)
        rw [List.getElem_map] at y16
        obtain ⟨z16, hz16⟩ : ∃ z, ws[p16]'(by omega) = z := ⟨_, rfl⟩
        rw [hz16] at y16
        have H_16 : Hid (ws.getD p16 0 = z16) := by
          show _ = _
          rw [List.getD_eq_getElem?_getD, List.getElem?_eq_getElem (by omega)]
          exact hz16
        clear hz16
        have b16 : (p16 : Int) < 64 := by omega
        have e16 : IntKind.i64.wrap ((k : Int) - 16) = (p16 : Int) := by rw [wrap_i64 (by omega) (by omega)]; exact hp16
        have f16 : IntKind.i64.wrap (p16 : Int) = (p16 : Int) := wrap_i64 (by omega) (by omega)
        obtain ⟨p7, hp7⟩ : ∃ p : Nat, (k : Int) - 7 = p := ⟨k - 7, by omega⟩
        have y7 := hA.out.cell (j := p7) (by simp [hwl]; omega)
        rw [List.getElem_map] at y7
        obtain ⟨z7, hz7⟩ : ∃ z, ws[p7]'(by omega) = z := ⟨_, rfl⟩
        rw [hz7] at y7
        have H_7 : Hid (ws.getD p7 0 = z7) := by
          show _ = _
          rw [List.getD_eq_getElem?_getD, List.getElem?_eq_getElem (by omega)]
          exact hz7
        clear hz7
        have b7 : (p7 : Int) < 64 := by omega
        have e7 : IntKind.i64.wrap ((k : Int) - 7) = (p7 : Int) := by rw [wrap_i64 (by omega) (by omega)]; exact hp7
        have f7 : IntKind.i64.wrap (p7 : Int) = (p7 : Int) := wrap_i64 (by omega) (by omega)
        have y0 := hA.out.cell (j := k) (by simp [hwl]; omega)
        have y1 := hA.out.frozen k
        rw [List.getElem_map] at y0
        obtain ⟨z0, hz0⟩ : ∃ z, ws[k]'(by omega) = z := ⟨_, rfl⟩
        rw [hz0] at y0
        clear hz0
        have HNX : Hid ((ws.set k (sched z16 z15 z7 z2)).take (k + 1) = wk m (k + 1)) := by
          show _ = _
          have e16 : k - 16 = p16 := by omega
          have e15 : k - 15 = p15 := by omega
          have e7 : k - 7 = p7 := by omega
          have e2 : k - 2 = p2 := by omega
          rw [take_set_snoc (by omega), hW.out, wk, wkNext, if_neg h16, ← hW.out, e16, e15, e7, e2, getD_take (by omega), getD_take (by omega), getD_take (by omega), getD_take (by omega), H_16.out, H_15.out, H_7.out, H_2.out]
        have HWL := Lib.hid hwl
        have hne16 : p16 ≠ k := by omega
        have hne7 : p7 ≠ k := by omega
        clear hwl
        go_wp2
        go_quiet (fail)
        have y16' : (wr.drewN nq).cell? ⟨w.heap.size, p16, none⟩ = some (vw z16) := y16
        have y7' : (wr.drewN nq).cell? ⟨w.heap.size, p7, none⟩ = some (vw z7) := y7
        have y0' : (wr.drewN nq).cell? ⟨w.heap.size, k, none⟩ = some (vw z0) := y0
        have y1' : (wr.drewN nq).frozen? ⟨w.heap.size, k, none⟩ = false := y1
        clear y15 y2 y16 y7 y0 y1
        have hA' := Lib.hid (hA.out.drewN nq)
        have hB' := Lib.hid (below_drewN hB.out nq)
        clear hA hB
        generalize wr.drewN nq = wq at *
        have c1 : ∀ u : Value, ((wq.setCell ⟨w.heap.size, k, none⟩ u).drew).cell? ⟨w.heap.size, p16, none⟩ = some (vw z16) := fun u => cell_other y16' hne16
        have c2 : ∀ u : Value, ((wq.setCell ⟨w.heap.size, k, none⟩ u).drew).cell? ⟨w.heap.size, p7, none⟩ = some (vw z7) := fun u => cell_other y7' hne7
        go_wp2
        go_region_held3 (fun w' => w'.cell? ⟨w.heap.size, p16, none⟩ = some (vw z16) ∧ w'.cell? ⟨w.heap.size, p7, none⟩ = some (vw z7)) (first | (go_keep; done) | exact ⟨c1 _, c2 _⟩)
          ((go_at_call 209; refine (right_any _ _ (by decide) _).mono ?_; rintro e w' ⟨rfl, rfl⟩))
        go_wp2
        go_roundw
        case rel => exact ⟨k + 1, ws.set k (sched z16 z15 z7 z2), by omega, by go_num, by rw [List.length_set]; exact HWL.out, HNX, by rw [List.map_set]; exact (hA'.out.set k _).drew, (hB'.out.setCell (p := ⟨w.heap.size, k, none⟩) (Nat.le_refl _) _).drew⟩
        case measure => simp [intOf]; omega
    · obtain rfl : k = 64 := by omega
      have HWS : Hid (ws = wk m 64) := by
        show _ = _
        rw [← hW.out, List.take_of_length_le (by omega)]
      clear hW
      have hh9 := HH.out.below hB.out hgh
      have q0 := hh9.cell (j := 0) (by simp [hl])
      have q1 := hh9.cell (j := 1) (by simp [hl])
      have q2 := hh9.cell (j := 2) (by simp [hl])
      have q3 := hh9.cell (j := 3) (by simp [hl])
      have q4 := hh9.cell (j := 4) (by simp [hl])
      have q5 := hh9.cell (j := 5) (by simp [hl])
      have q6 := hh9.cell (j := 6) (by simp [hl])
      have q7 := hh9.cell (j := 7) (by simp [hl])
      rw [List.getElem_map] at q0 q1 q2 q3 q4 q5 q6 q7
      have HRG : Hid (∀ o, (wr.alloc o).rangeAt w.heap.size 0 (ws.map vw)) := fun o => (hA.out.alloc o).range
      have hsz : (Tryz.prog.info? 277).map (·.size) = some (ws.map vw).length := by rw [List.length_map, hwl]; kernel_rfl
      have HSZ := Lib.hid hsz
      clear hsz hA
      have a83 := Tryz.isAgg275
      have s83 := Tryz.sizeOf275
      go_wp2_with (refine wpList_load_mid rfl 277 _ rfl w.heap.size 0 rfl (ws.map vw) _ (HRG.out _) Tryz.underlying277 rfl HSZ.out ?_)
      have hB1 := hB.out.size
      have HV0 : Hid (Arr (wr.alloc (.cells #[vw hs[0], vw hs[1], vw hs[2], vw hs[3], vw hs[4], vw hs[5], vw hs[6], vw hs[7]] 275)) wr.heap.size 275 [vw hs[0], vw hs[1], vw hs[2], vw hs[3], vw hs[4], vw hs[5], vw hs[6], vw hs[7]]) := Arr.new wr [vw hs[0], vw hs[1], vw hs[2], vw hs[3], vw hs[4], vw hs[5], vw hs[6], vw hs[7]] _
      have HB0 : Hid (Below w.heap.size w (wr.alloc (.cells #[vw hs[0], vw hs[1], vw hs[2], vw hs[3], vw hs[4], vw hs[5], vw hs[6], vw hs[7]] 275))) := hB.out.alloc hB1 _
      clear q0 q1 q2 q3 q4 q5 q6 q7 hh9 HRG HSZ
      generalize wr = wp at *
      have hrow0 : (V8.of hs).list.map vw = [vw hs[0], vw hs[1], vw hs[2], vw hs[3], vw hs[4], vw hs[5], vw hs[6], vw hs[7]] := by rw [← list8 hl]; match hs, hl with | [a, b, c, d, e, f, g, i], _ => rfl
      have HR0 := Lib.hid hrow0
      clear hrow0
      go_loopw [101] (fun i wx => ∃ (k : Nat) (v : V8), k ≤ 64 ∧ i = .int .i64 k ∧ Hid (v = rnds ks ws (V8.of hs) k) ∧ Hid (Arr wx wp.heap.size 275 (v.list.map vw)) ∧ Hid (Below w.heap.size w wx)) (fun i _ => 64 - (intOf i).toNat)
      case atStart => exact ⟨0, V8.of hs, by omega, rfl, rfl, HR0.out ▸ HV0.out, HB0⟩
      case round =>
        obtain ⟨k, ⟨v0, v1, v2, v3, v4, v5, v6, v7⟩, hk, rfl, hv, qV, qB⟩ := hrel
        clear HV0 HB0 HR0
        by_cases hlt : k < 64
        · have kkl : k < ks.length := by omega
          have kwl : k < ws.length := by omega
          have q0 : wr.cell? ⟨wp.heap.size, 0, none⟩ = some (vw v0) := qV.out.cell (j := 0) (by simp [V8.list])
          have q1 : wr.cell? ⟨wp.heap.size, 1, none⟩ = some (vw v1) := qV.out.cell (j := 1) (by simp [V8.list])
          have q2 : wr.cell? ⟨wp.heap.size, 2, none⟩ = some (vw v2) := qV.out.cell (j := 2) (by simp [V8.list])
          have q3 : wr.cell? ⟨wp.heap.size, 3, none⟩ = some (vw v3) := qV.out.cell (j := 3) (by simp [V8.list])
          have q4 : wr.cell? ⟨wp.heap.size, 4, none⟩ = some (vw v4) := qV.out.cell (j := 4) (by simp [V8.list])
          have q5 : wr.cell? ⟨wp.heap.size, 5, none⟩ = some (vw v5) := qV.out.cell (j := 5) (by simp [V8.list])
          have q6 : wr.cell? ⟨wp.heap.size, 6, none⟩ = some (vw v6) := qV.out.cell (j := 6) (by simp [V8.list])
          have q7 : wr.cell? ⟨wp.heap.size, 7, none⟩ = some (vw v7) := qV.out.cell (j := 7) (by simp [V8.list])
          have yk := (HK.out.below qB.out hgk).cell (j := k) (by simpa using kkl)
          rw [List.getElem_map] at yk
          obtain ⟨kk, hkk⟩ : ∃ z, ks[k] = z := ⟨_, rfl⟩
          obtain ⟨x, hx⟩ : ∃ z, ws[k] = z := ⟨_, rfl⟩
          rw [hkk] at yk
          have hidx : ∀ W, (Instr.index 277 (.agg (ws.map vw).toArray) (.int .i64 k)).run Tryz.prog W = .ok (vw x) W := fun W => run_index_row (by rw [List.getElem?_map, List.getElem?_eq_getElem (by omega), hx]; rfl) (by simp [hwl])
          have hi1 : (0 : Int) ≤ (k : Int) := by omega
          have hi2 : (k : Int) < 64 := by omega
          have HN : Hid (rnd kk x ⟨v0, v1, v2, v3, v4, v5, v6, v7⟩ = rnds ks ws (V8.of hs) (k + 1)) := by
            show _ = _
            rw [rnds, ← hv.out, ← getD_of kkl, ← getD_of kwl, hkk, hx]
          clear hkk hx hv
          go_wp2
          clear hidx
          go_quiet (fail)
          have p0 : (wr.drewN nq).cell? ⟨wp.heap.size, 0, none⟩ = some (vw v0) := q0
          have p1 : (wr.drewN nq).cell? ⟨wp.heap.size, 1, none⟩ = some (vw v1) := q1
          have p2 : (wr.drewN nq).cell? ⟨wp.heap.size, 2, none⟩ = some (vw v2) := q2
          have p3 : (wr.drewN nq).cell? ⟨wp.heap.size, 3, none⟩ = some (vw v3) := q3
          have p4 : (wr.drewN nq).cell? ⟨wp.heap.size, 4, none⟩ = some (vw v4) := q4
          have p5 : (wr.drewN nq).cell? ⟨wp.heap.size, 5, none⟩ = some (vw v5) := q5
          have p6 : (wr.drewN nq).cell? ⟨wp.heap.size, 6, none⟩ = some (vw v6) := q6
          have p7 : (wr.drewN nq).cell? ⟨wp.heap.size, 7, none⟩ = some (vw v7) := q7
          have pV := Lib.hid (qV.out.drewN nq)
          have pB := Lib.hid (below_drewN qB.out nq)
          clear q0 q1 q2 q3 q4 q5 q6 q7 qV qB
          have yk' : (wr.drewN nq).cell? ⟨gk, k, none⟩ = some (vw kk) := yk
          clear yk
          generalize wr.drewN nq = wq at *
          go_wp2
          go_quiet ((go_at_call 209; exact Calls.quiet_of_same (right_any _ _ (by decide) _)))
          go_wp2
          have r0 : (wq.drewN nq).cell? ⟨wp.heap.size, 0, none⟩ = some (vw v0) := p0
          have r1 : (wq.drewN nq).cell? ⟨wp.heap.size, 1, none⟩ = some (vw v1) := p1
          have r2 : (wq.drewN nq).cell? ⟨wp.heap.size, 2, none⟩ = some (vw v2) := p2
          have r3 : (wq.drewN nq).cell? ⟨wp.heap.size, 3, none⟩ = some (vw v3) := p3
          have r4 : (wq.drewN nq).cell? ⟨wp.heap.size, 4, none⟩ = some (vw v4) := p4
          have r5 : (wq.drewN nq).cell? ⟨wp.heap.size, 5, none⟩ = some (vw v5) := p5
          have r6 : (wq.drewN nq).cell? ⟨wp.heap.size, 6, none⟩ = some (vw v6) := p6
          have r7 : (wq.drewN nq).cell? ⟨wp.heap.size, 7, none⟩ = some (vw v7) := p7
          have rV := Lib.hid (pV.out.drewN nq)
          have rB := Lib.hid (below_drewN pB.out nq)
          clear p0 p1 p2 p3 p4 p5 p6 p7 pV pB
          clear yk'
          generalize wq.drewN nq = wr1 at *
          go_quiet ((go_at_call 209; exact Calls.quiet_of_same (right_any _ _ (by decide) _)))
          have s0 : (wr1.drewN nq).cell? ⟨wp.heap.size, 0, none⟩ = some (vw v0) := r0
          have s1 : (wr1.drewN nq).cell? ⟨wp.heap.size, 1, none⟩ = some (vw v1) := r1
          have s2 : (wr1.drewN nq).cell? ⟨wp.heap.size, 2, none⟩ = some (vw v2) := r2
          have s3 : (wr1.drewN nq).cell? ⟨wp.heap.size, 3, none⟩ = some (vw v3) := r3
          have s4 : (wr1.drewN nq).cell? ⟨wp.heap.size, 4, none⟩ = some (vw v4) := r4
          have s5 : (wr1.drewN nq).cell? ⟨wp.heap.size, 5, none⟩ = some (vw v5) := r5
          have s6 : (wr1.drewN nq).cell? ⟨wp.heap.size, 6, none⟩ = some (vw v6) := r6
          have s7 : (wr1.drewN nq).cell? ⟨wp.heap.size, 7, none⟩ = some (vw v7) := r7
          have sV := Lib.hid (rV.out.drewN nq)
          have sB := Lib.hid (below_drewN rB.out nq)
          clear r0 r1 r2 r3 r4 r5 r6 r7 rV rB
          generalize wr1.drewN nq = wt at *
          have f0 : wt.frozen? ⟨wp.heap.size, 0, none⟩ = false := sV.out.frozen 0
          have f1 : wt.frozen? ⟨wp.heap.size, 1, none⟩ = false := sV.out.frozen 1
          have f2 : wt.frozen? ⟨wp.heap.size, 2, none⟩ = false := sV.out.frozen 2
          have f3 : wt.frozen? ⟨wp.heap.size, 3, none⟩ = false := sV.out.frozen 3
          have f4 : wt.frozen? ⟨wp.heap.size, 4, none⟩ = false := sV.out.frozen 4
          have f5 : wt.frozen? ⟨wp.heap.size, 5, none⟩ = false := sV.out.frozen 5
          have f6 : wt.frozen? ⟨wp.heap.size, 6, none⟩ = false := sV.out.frozen 6
          have f7 : wt.frozen? ⟨wp.heap.size, 7, none⟩ = false := sV.out.frozen 7
          go_wp2
          go_roundw
          case rel =>
            refine ⟨k + 1, rnd kk x ⟨v0, v1, v2, v3, v4, v5, v6, v7⟩, by omega, by go_num, HN, ?_, ?_⟩
            · exact (((((((sV.out.set 0 (vw ((oneE ⟨v0, v1, v2, v3, v4, v5, v6, v7⟩ kk x + twoE ⟨v0, v1, v2, v3, v4, v5, v6, v7⟩) % 4294967296))).set 1 (vw v0)).set 2 (vw v1)).set 3 (vw v2)).set 4 (vw ((v3 + oneE ⟨v0, v1, v2, v3, v4, v5, v6, v7⟩ kk x) % 4294967296))).set 5 (vw v4)).set 6 (vw v5)).set 7 (vw v6)
            · exact (((((((sB.out.setCell (p := ⟨wp.heap.size, 0, none⟩) hB1 _).setCell (p := ⟨wp.heap.size, 1, none⟩) hB1 _).setCell (p := ⟨wp.heap.size, 2, none⟩) hB1 _).setCell (p := ⟨wp.heap.size, 3, none⟩) hB1 _).setCell (p := ⟨wp.heap.size, 4, none⟩) hB1 _).setCell (p := ⟨wp.heap.size, 5, none⟩) hB1 _).setCell (p := ⟨wp.heap.size, 6, none⟩) hB1 _).setCell (p := ⟨wp.heap.size, 7, none⟩) hB1 _
          case measure => simp [intOf]; omega
        · obtain rfl : k = 64 := by omega
          have q0 : wr.cell? ⟨wp.heap.size, 0, none⟩ = some (vw v0) := qV.out.cell (j := 0) (by simp [V8.list])
          have q1 : wr.cell? ⟨wp.heap.size, 1, none⟩ = some (vw v1) := qV.out.cell (j := 1) (by simp [V8.list])
          have q2 : wr.cell? ⟨wp.heap.size, 2, none⟩ = some (vw v2) := qV.out.cell (j := 2) (by simp [V8.list])
          have q3 : wr.cell? ⟨wp.heap.size, 3, none⟩ = some (vw v3) := qV.out.cell (j := 3) (by simp [V8.list])
          have q4 : wr.cell? ⟨wp.heap.size, 4, none⟩ = some (vw v4) := qV.out.cell (j := 4) (by simp [V8.list])
          have q5 : wr.cell? ⟨wp.heap.size, 5, none⟩ = some (vw v5) := qV.out.cell (j := 5) (by simp [V8.list])
          have q6 : wr.cell? ⟨wp.heap.size, 6, none⟩ = some (vw v6) := qV.out.cell (j := 6) (by simp [V8.list])
          have q7 : wr.cell? ⟨wp.heap.size, 7, none⟩ = some (vw v7) := qV.out.cell (j := 7) (by simp [V8.list])
          have hgw := Lib.hid (HH.out.below qB.out hgh)
          have hG0 := Lib.hid (grown_of_below qB.out (some gh))
          obtain ⟨vs, hvs⟩ : ∃ z : List Int, [v0, v1, v2, v3, v4, v5, v6, v7] = z := ⟨_, rfl⟩
          have hvl : Hid (vs.length = 8) := by show _ = _; rw [← hvs]; rfl
          have hend : Hid (addW hs vs = mixed8 hs ks m) := by
            show _ = _
            rw [mixed8, ← HWS.out, ← hv.out, ← hvs]; rfl
          have hvv : [vw v0, vw v1, vw v2, vw v3, vw v4, vw v5, vw v6, vw v7] = vs.map vw := by rw [← hvs]; rfl
          have hix : Hid (∀ (k : Nat) (x : Int), vs[k]? = some x → ∀ W, (Instr.index 275 (.agg #[vw v0, vw v1, vw v2, vw v3, vw v4, vw v5, vw v6, vw v7]) (.int .i64 k)).run Tryz.prog W = .ok (vw x) W) := fun k x hx W => run_index_row8 (vs := [vw v0, vw v1, vw v2, vw v3, vw v4, vw v5, vw v6, vw v7]) (by rw [hvv, List.getElem?_map, hx]; rfl) rfl
          clear hvs hvv hv qV
          go_wp2
          clear q0 q1 q2 q3 q4 q5 q6 q7 qB
          go_loopw [183] (fun i wx => ∃ (k : Nat) (hh : List Int), k ≤ 8 ∧ i = .int .i64 k ∧ Hid (hh.length = 8 ∧ hh.take k = (addW hs vs).take k ∧ hh.drop k = hs.drop k) ∧ Hid (Arr wx gh 275 (hh.map vw)) ∧ Hid (w.grownBy wx (some gh))) (fun i _ => 8 - (intOf i).toNat)
          case atStart => exact ⟨0, hs, by omega, rfl, ⟨hl, rfl, rfl⟩, hgw, hG0⟩
          case round =>
            obtain ⟨k, hh, hk, rfl, hH, hA, hG⟩ := hrel
            clear hgw hG0
            by_cases hlt : k < 8
            · have hsl : k < hs.length := by omega
              have hvk : k < vs.length := by rw [hvl.out]; omega
              obtain ⟨s1, s2, s3⟩ := addW_step hlt hl hvl.out hH.out.1 hH.out.2.1 hH.out.2.2
              obtain ⟨x, hx⟩ : ∃ z, vs[k] = z := ⟨_, rfl⟩
              obtain ⟨y, hy⟩ : ∃ z, hs[k] = z := ⟨_, rfl⟩
              have hhl : k < hh.length := by rw [hH.out.1]; omega
              have c0 := hA.out.cell (j := k) (by simpa using hhl)
              rw [List.getElem_map, s1, hy] at c0
              have c1 := hA.out.frozen k
              have hidx := hix.out k x (by rw [List.getElem?_eq_getElem hvk, hx])
              have HS : Hid ((hh.set k ((y + x) % 4294967296)).length = 8 ∧ (hh.set k ((y + x) % 4294967296)).take (k + 1) = (addW hs vs).take (k + 1) ∧ (hh.set k ((y + x) % 4294967296)).drop (k + 1) = hs.drop (k + 1)) := by
                rw [hx, hy] at s2 s3
                exact ⟨by rw [List.length_set]; exact hH.out.1, s2, s3⟩
              have hi1 : (0 : Int) ≤ (k : Int) := by omega
              have hi2 : (k : Int) < 8 := by omega
              clear s1 s2 s3 hx hy hsl hvk hhl
              go_wp2
              go_region
              go_wp2
              go_roundw
              case rel => exact ⟨k + 1, hh.set k ((y + x) % 4294967296), by omega, by go_num, HS, by rw [List.map_set]; exact (hA.out.set k _).drew, grown_drew (grown_set hG.out k _)⟩
              case measure => simp [intOf]; omega
            · obtain rfl : k = 8 := by omega
              have hfin : Arr wr gh 275 ((mixed8 hs ks m).map vw) := by
                have h1 := hH.out.2.1
                rw [List.take_of_length_le (by rw [hH.out.1]; omega), List.take_of_length_le (by rw [addW_len hl hvl.out]; omega), hend.out] at h1
                rw [← h1]; exact hA.out
              have HF := Lib.hid hfin
              clear hfin
              go_wp2
              go_end0
              exact ⟨rfl, HF.out, hG.out⟩
end Go.Proofs.YtinijohmdljieaaGreatDoor
