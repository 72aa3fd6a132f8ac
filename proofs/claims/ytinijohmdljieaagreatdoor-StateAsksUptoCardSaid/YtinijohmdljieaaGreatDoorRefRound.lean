/- docketref14.round. -/
import Derived.Test.YtinijohmdljieaaGreatDoorH15
import Derived.Deep.RegionHeld3
import Derived.Deep.DrawnRows
import Derived.RegionTactic
namespace Go.Proofs.YtinijohmdljieaaGreatDoor
open Go.RowKit

theorem sched_flat (a b c d : Int) : (a + b + c + d) % 4294967296 = (((a + b) % 4294967296 + c) % 4294967296 + d) % 4294967296 := by omega
/-- the four variables of a round -/
structure Four (w W : World) (hs ks ws : List Int) : Prop where
  h : Arr W w.heap.size 274 (hs.map vw)
  k : Arr W (w.heap.size + 1) 277 (ks.map vw)
  o : Arr W (w.heap.size + 1 + 1) 274 (List.replicate 8 (vw 0))
  v : Arr W (w.heap.size + 1 + 1 + 1) 277 (ws.map vw)
  b : Below w.heap.size w W
theorem Four.new (w : World) (hs ks : List Int) : Four w ((((w.alloc (.cells (hs.map vw).toArray 274)).alloc (.cells (ks.map vw).toArray 277)).alloc (.cells (List.replicate 8 (vw 0)).toArray 274)).alloc (.cells (List.replicate 64 (vw 0)).toArray 277)) hs ks (List.replicate 64 0) := by
  have h1 := Arr.new w (hs.map vw) 274
  have h2 := Arr.new (w.alloc (.cells (hs.map vw).toArray 274)) (ks.map vw) 277
  have h3 := Arr.new ((w.alloc (.cells (hs.map vw).toArray 274)).alloc (.cells (ks.map vw).toArray 277)) (List.replicate 8 (vw 0)) 274
  have h4 := Arr.new (((w.alloc (.cells (hs.map vw).toArray 274)).alloc (.cells (ks.map vw).toArray 277)).alloc (.cells (List.replicate 8 (vw 0)).toArray 274)) (List.replicate 64 (vw 0)) 277
  have e1 : (w.alloc (.cells (hs.map vw).toArray 274)).heap.size = w.heap.size + 1 := by simp
  have e2 : ((w.alloc (.cells (hs.map vw).toArray 274)).alloc (.cells (ks.map vw).toArray 277)).heap.size = w.heap.size + 1 + 1 := by simp
  have e3 : (((w.alloc (.cells (hs.map vw).toArray 274)).alloc (.cells (ks.map vw).toArray 277)).alloc (.cells (List.replicate 8 (vw 0)).toArray 274)).heap.size = w.heap.size + 1 + 1 + 1 := by simp
  rw [e1] at h2
  rw [e2] at h3
  rw [e3] at h4
  exact ⟨((h1.alloc _).alloc _).alloc _, (h2.alloc _).alloc _, h3.alloc _, by rw [List.map_replicate]; exact h4, ((((Below.refl _ _).alloc (Nat.le_refl _) _).alloc (by simp) _).alloc (by simp; omega) _).alloc (by simp; omega) _⟩
theorem Four.drewN {w W : World} {hs ks ws : List Int} (h : Four w W hs ks ws) (n : Nat) : Four w (W.drewN n) hs ks ws := ⟨h.h.drewN n, h.k.drewN n, h.o.drewN n, h.v.drewN n, below_drewN h.b n⟩
theorem Four.drew {w W : World} {hs ks ws : List Int} (h : Four w W hs ks ws) : Four w W.drew hs ks ws := ⟨h.h.drew, h.k.drew, h.o.drew, h.v.drew, h.b.drew⟩
theorem Four.setV {w W : World} {hs ks ws : List Int} (h : Four w W hs ks ws) (j : Nat) (x : Int) : Four w (W.setCell ⟨w.heap.size + 1 + 1 + 1, j, none⟩ (vw x)) hs ks (ws.set j x) :=
  ⟨h.h.far (by simp; omega) _, h.k.far (by simp) _, h.o.far (by simp) _, by rw [List.map_set]; exact h.v.set j _, h.b.setCell (p := ⟨w.heap.size + 1 + 1 + 1, j, none⟩) (by simp; omega) _⟩
theorem Four.setH {w W : World} {hs ks ws : List Int} (h : Four w W hs ks ws) (j : Nat) (x : Int) : Four w (W.setCell ⟨w.heap.size, j, none⟩ (vw x)) (hs.set j x) ks ws :=
  ⟨by rw [List.map_set]; exact h.h.set j _, h.k.far (by simp) _, h.o.far (by simp; omega) _, h.v.far (by simp; omega) _, h.b.setCell (p := ⟨w.heap.size, j, none⟩) (by simp) _⟩
theorem Four.far {w W : World} {hs ks ws : List Int} (h : Four w W hs ks ws) {g : Nat} (hg : w.heap.size + 1 + 1 + 1 < g) (j : Nat) (u : Value) : Four w (W.setCell ⟨g, j, none⟩ u) hs ks ws :=
  ⟨h.h.far (by simp; omega) _, h.k.far (by simp; omega) _, h.o.far (by simp; omega) _, h.v.far (by simp; omega) _, h.b.setCell (p := ⟨g, j, none⟩) (by simp; omega) _⟩

set_option maxHeartbeats 6000000 in
set_option maxRecDepth 100000 in
theorem round_walk (bb bo c n : Nat) (hs ks m : List Int) (w : World) (hl : hs.length = 8) (kl : ks.length = 64) (ml : m.length = 64) (hn : 64 ≤ n) (hn2 : n ≤ 1048576)
    (hbb : bb < w.heap.size) (hm : ∀ j (h : j < 64), w.cell? ⟨bb, bo + j, none⟩ = some (.int .u8 (m[j]))) (hr : ∀ x ∈ m, 0 ≤ x ∧ x < 256) :
    Calls Tryz.prog 197 #[.agg (hs.map vw).toArray, .slice (some ⟨bb, bo, none⟩) n c, .agg (ks.map vw).toArray] w fun e w' => e = .returned (.agg ((mixed8 hs ks m).map vw).toArray) ∧ Below w.heap.size w w' := by
  have HF := Lib.hid (Four.new w hs ks)
  have HM := Lib.hid hm; have HR := Lib.hid hr
  clear hm hr
  go_enter Tryz.func197, Tryz.ntmps197
  go_wp2
  go_loopw [8] (fun i wr => ∃ (k : Nat) (ws : List Int), k ≤ 16 ∧ i = .int .i64 k ∧ ws.length = 64 ∧ Hid (ws.take k = wk m k) ∧ Hid (Four w wr hs ks ws)) (fun i _ => 16 - (intOf i).toNat)
  case atStart => exact ⟨0, List.replicate 64 0, by omega, rfl, by simp, rfl, HF⟩
  case round =>
    clear HF
    obtain ⟨k, ws, hk, rfl, hwl, hW, hF⟩ := hrel
    by_cases hlt : k < 16
    · have g1 : (0 : Int) ≤ 4 * (k : Int) := by omega
      have u1 : IntKind.i64.wrap (4 * (k : Int)) = 4 * (k : Int) := wrap_i64 (by omega) (by omega)
      have x0 := (hF.out.b.cell (p := ⟨bb, bo + 4 * k, none⟩) hbb).trans (HM.out (4 * k) (by omega))
      have x1 := (hF.out.b.cell (p := ⟨bb, bo + (4 * k + 1), none⟩) hbb).trans (HM.out (4 * k + 1) (by omega))
      have x2 := (hF.out.b.cell (p := ⟨bb, bo + (4 * k + 2), none⟩) hbb).trans (HM.out (4 * k + 2) (by omega))
      have x3 := (hF.out.b.cell (p := ⟨bb, bo + (4 * k + 3), none⟩) hbb).trans (HM.out (4 * k + 3) (by omega))
      have HW := Lib.hid (word_walk bb bo c n k _ _ _ _ wr (by omega) hn2 x0 x1 x2 x3 (HR.out _ (List.getElem_mem _)) (HR.out _ (List.getElem_mem _)) (HR.out _ (List.getElem_mem _)) (HR.out _ (List.getElem_mem _)))
      have y0 := hF.out.v.cell (j := k) (by simp [hwl]; omega)
      have y1 := hF.out.v.frozen k
      obtain ⟨old, hold⟩ : ∃ z, (ws.map vw)[k]'(by simp [hwl]; omega) = z := ⟨_, rfl⟩
      rw [hold] at y0
      have HNX : Hid ((ws.set k (word4 m[4 * k] m[4 * k + 1] m[4 * k + 2] m[4 * k + 3])).take (k + 1) = wk m (k + 1)) := by
        show _ = _
        rw [take_set_snoc (by omega), hW.out, wk, wkNext, if_pos hlt, getD_at (by omega), getD_at (by omega), getD_at (by omega), getD_at (by omega)]
      generalize word4 m[4 * k] m[4 * k + 1] m[4 * k + 2] m[4 * k + 3] = z at HW HNX
      have HWL := Lib.hid hwl
      clear hwl hold x0 x1 x2 x3 hW
      go_wp2_with fail
      refine HW.out.mono ?_
      rintro e w2 ⟨rfl, q, rfl⟩
      have i1 : (0 : Int) ≤ (k : Int) := by omega
      have i2 : (k : Int) < 64 := by omega
      go_wp2
      go_roundw
      case rel => exact ⟨k + 1, ws.set k z, by omega, by go_num, by rw [List.length_set]; exact HWL.out, HNX, (hF.out.drewN q).setV k z⟩
      case measure => simp [intOf]; omega
    · have hk16 : 16 ≤ k := by omega
      have HW16 : Hid (ws.take 16 = wk m 16) := by
        have e : k = 16 := by omega
        have := hW.out
        rwa [e] at this
      clear hW
      obtain ⟨k0, rfl⟩ : ∃ k0, k0 = k := ⟨_, rfl⟩
      go_wp2
      go_loopw [9] (fun i wr => ∃ (k : Nat) (ws : List Int), 16 ≤ k ∧ k ≤ 64 ∧ i = .int .i64 k ∧ ws.length = 64 ∧ Hid (ws.take k = wk m k) ∧ Hid (Four w wr hs ks ws)) (fun i _ => 64 - (intOf i).toNat)
      case atStart => exact ⟨16, ws, by omega, by omega, rfl, hwl, HW16, hF⟩
      case round =>
        clear hF HW16 hwl hlt
        obtain ⟨k, ws, h16, hk2, rfl, hwl, hW, hF⟩ := hrel
        by_cases hlt : k < 64
        · skip
          obtain ⟨p15, hp15⟩ : ∃ p : Nat, (k : Int) - 15 = p := ⟨k - 15, by omega⟩
          have y15 := hF.out.v.cell (j := p15) (by simp [hwl]; omega)
          rw [List.getElem_map] at y15
          obtain ⟨z15, hz15⟩ : ∃ z, ws[p15]'(by omega) = z := ⟨_, rfl⟩
          rw [hz15] at y15
          have H_15 : Hid (ws.getD p15 0 = z15) := by
            show _ = _
            rw [List.getD_eq_getElem?_getD, List.getElem?_eq_getElem (by omega)]
            exact hz15
          clear hz15
          have b15 : (p15 : Int) < 64 := by omega
          have e15 : IntKind.i64.wrap ((k : Int) - 15) = (p15 : Int) := by rw [wrap_i64 (by omega) (by omega)]; exact hp15
          have f15 : IntKind.i64.wrap (p15 : Int) = (p15 : Int) := wrap_i64 (by omega) (by omega)
          obtain ⟨p2, hp2⟩ : ∃ p : Nat, (k : Int) - 2 = p := ⟨k - 2, by omega⟩
          have y2 := hF.out.v.cell (j := p2) (by simp [hwl]; omega)
          rw [List.getElem_map] at y2
          obtain ⟨z2, hz2⟩ : ∃ z, ws[p2]'(by omega) = z := ⟨_, rfl⟩
          rw [hz2] at y2
          have H_2 : Hid (ws.getD p2 0 = z2) := by
            show _ = _
            rw [List.getD_eq_getElem?_getD, List.getElem?_eq_getElem (by omega)]
            exact hz2
          clear hz2
          have b2 : (p2 : Int) < 64 := by omega
          have e2 : IntKind.i64.wrap ((k : Int) - 2) = (p2 : Int) := by rw [wrap_i64 (by omega) (by omega)]; exact hp2
          have f2 : IntKind.i64.wrap (p2 : Int) = (p2 : Int) := wrap_i64 (by omega) (by omega)
          obtain ⟨p16, hp16⟩ : ∃ p : Nat, (k : Int) - 16 = p := ⟨k - 16, by omega⟩
          have y16 := hF.out.v.cell (j := p16) (by simp [hwl]; omega)
          rw [List.getElem_map] at y16
          obtain ⟨z16, hz16⟩ : ∃ z, ws[p16]'(by omega) = z := ⟨_, rfl⟩
          rw [hz16] at y16
          have H_16 : Hid (ws.getD p16 0 = z16) := by
            show _ = _
            rw [List.getD_eq_getElem?_getD, List.getElem?_eq_getElem (by omega)]
            exact hz16
          clear hz16
          have b16 : (p16 : Int) < 64 := by omega
          have e16 : IntKind.i64.wrap ((k : Int) - 16) = (p16 : Int) := by rw [wrap_i64 (by omega) (by omega)]; exact hp16
          have f16 : IntKind.i64.wrap (p16 : Int) = (p16 : Int) := wrap_i64 (by omega) (by omega)
          obtain ⟨p7, hp7⟩ : ∃ p : Nat, (k : Int) - 7 = p := ⟨k - 7, by omega⟩
          have y7 := hF.out.v.cell (j := p7) (by simp [hwl]; omega)
          rw [List.getElem_map] at y7
          obtain ⟨z7, hz7⟩ : ∃ z, ws[p7]'(by omega) = z := ⟨_, rfl⟩
          rw [hz7] at y7
          have H_7 : Hid (ws.getD p7 0 = z7) := by
            show _ = _
            rw [List.getD_eq_getElem?_getD, List.getElem?_eq_getElem (by omega)]
            exact hz7
          clear hz7
          have b7 : (p7 : Int) < 64 := by omega
          have e7 : IntKind.i64.wrap ((k : Int) - 7) = (p7 : Int) := by rw [wrap_i64 (by omega) (by omega)]; exact hp7
          have f7 : IntKind.i64.wrap (p7 : Int) = (p7 : Int) := wrap_i64 (by omega) (by omega)
          have y0 := hF.out.v.cell (j := k) (by simp [hwl]; omega)
          have y1 := hF.out.v.frozen k
          rw [List.getElem_map] at y0
          obtain ⟨z0, hz0⟩ : ∃ z, ws[k]'(by omega) = z := ⟨_, rfl⟩
          rw [hz0] at y0
          clear hz0
          have HNX : Hid ((ws.set k (sched z16 z15 z7 z2)).take (k + 1) = wk m (k + 1)) := by
            show _ = _
            have e16 : k - 16 = p16 := by omega
            have e15 : k - 15 = p15 := by omega
            have e7 : k - 7 = p7 := by omega
            have e2 : k - 2 = p2 := by omega
            rw [take_set_snoc (by omega), hW.out, wk, wkNext, if_neg (by omega), ← hW.out, e16, e15, e7, e2, getD_take (by omega), getD_take (by omega), getD_take (by omega), getD_take (by omega), H_16.out, H_15.out, H_7.out, H_2.out]
          have HWL := Lib.hid hwl
          have hne16 : p16 ≠ k := by omega
          have hne7 : p7 ≠ k := by omega
          clear hwl
          go_wp2
          go_quiet ((go_at_call 211; exact Calls.quiet_of_same (turn_any _ _ (by decide) _)))
          have y16' : (wr.drewN nq).cell? ⟨w.heap.size + 1 + 1 + 1, p16, none⟩ = some (vw z16) := y16
          have y7' : (wr.drewN nq).cell? ⟨w.heap.size + 1 + 1 + 1, p7, none⟩ = some (vw z7) := y7
          have y2' : (wr.drewN nq).cell? ⟨w.heap.size + 1 + 1 + 1, p2, none⟩ = some (vw z2) := y2
          have y0' : (wr.drewN nq).cell? ⟨w.heap.size + 1 + 1 + 1, k, none⟩ = some (vw z0) := y0
          have y1' : (wr.drewN nq).frozen? ⟨w.heap.size + 1 + 1 + 1, k, none⟩ = false := y1
          have hF' := Lib.hid (hF.out.drewN nq)
          clear y15 y2 y16 y7 y0 y1 hF hW H_15
          generalize wr.drewN nq = wq at *
          go_wp2
          go_quiet ((go_at_call 211; exact Calls.quiet_of_same (turn_any _ _ (by decide) _)))
          have x16 : (wq.drewN nq).cell? ⟨w.heap.size + 1 + 1 + 1, p16, none⟩ = some (vw z16) := y16'
          have x7 : (wq.drewN nq).cell? ⟨w.heap.size + 1 + 1 + 1, p7, none⟩ = some (vw z7) := y7'
          have x0 : (wq.drewN nq).cell? ⟨w.heap.size + 1 + 1 + 1, k, none⟩ = some (vw z0) := y0'
          have x1 : (wq.drewN nq).frozen? ⟨w.heap.size + 1 + 1 + 1, k, none⟩ = false := y1'
          have hG := Lib.hid (hF'.out.drewN nq)
          clear y2' y16' y7' y0' y1' hF'
          generalize wq.drewN nq = wt at *
          have c1 : ∀ u : Value, ((wt.setCell ⟨w.heap.size + 1 + 1 + 1, k, none⟩ u).drew).cell? ⟨w.heap.size + 1 + 1 + 1, p16, none⟩ = some (vw z16) := fun u => cell_other x16 hne16
          have c2 : ∀ u : Value, ((wt.setCell ⟨w.heap.size + 1 + 1 + 1, k, none⟩ u).drew).cell? ⟨w.heap.size + 1 + 1 + 1, p7, none⟩ = some (vw z7) := fun u => cell_other x7 hne7
          have hk1 : (0 : Int) ≤ (k : Int) := by omega
          have hk2 : (k : Int) < 64 := by omega
          go_wp2
          go_region_held3 (fun w' => w'.cell? ⟨w.heap.size + 1 + 1 + 1, p16, none⟩ = some (vw z16) ∧ w'.cell? ⟨w.heap.size + 1 + 1 + 1, p7, none⟩ = some (vw z7)) (first | (go_keep; done) | exact ⟨c1 _, c2 _⟩) (fail)
          go_wp2
          go_roundw
          case rel => exact ⟨k + 1, ws.set k (sched z16 z15 z7 z2), by omega, by omega, by go_num, by rw [List.length_set]; exact HWL.out, HNX, (hG.out.setV k _).drew⟩
          case measure => simp [intOf]; omega
        · have hk64 : 64 ≤ k := by omega
          have HWS : Hid (ws = wk m 64) := by
            show _ = _
            have e : k = 64 := by omega
            have h1 := hW.out
            rw [e] at h1
            rw [← h1, List.take_of_length_le (by omega)]
          clear hW
          obtain ⟨k1, rfl⟩ : ∃ k0, k0 = k := ⟨_, rfl⟩
          have q0 := hF.out.h.cell (j := 0) (by simp [hl])
          have q1 := hF.out.h.cell (j := 1) (by simp [hl])
          have q2 := hF.out.h.cell (j := 2) (by simp [hl])
          have q3 := hF.out.h.cell (j := 3) (by simp [hl])
          have q4 := hF.out.h.cell (j := 4) (by simp [hl])
          have q5 := hF.out.h.cell (j := 5) (by simp [hl])
          have q6 := hF.out.h.cell (j := 6) (by simp [hl])
          have q7 := hF.out.h.cell (j := 7) (by simp [hl])
          rw [List.getElem_map] at q0 q1 q2 q3 q4 q5 q6 q7
          have a82 := Tryz.isAgg274
          have s82 := Tryz.sizeOf274
          go_wp2
          have HV0 : Hid (Arr (wr.alloc (.cells #[vw hs[0], vw hs[1], vw hs[2], vw hs[3], vw hs[4], vw hs[5], vw hs[6], vw hs[7]] 274)) wr.heap.size 274 [vw hs[0], vw hs[1], vw hs[2], vw hs[3], vw hs[4], vw hs[5], vw hs[6], vw hs[7]]) := Arr.new wr [vw hs[0], vw hs[1], vw hs[2], vw hs[3], vw hs[4], vw hs[5], vw hs[6], vw hs[7]] _
          have HF0 : Hid (Four w (wr.alloc (.cells #[vw hs[0], vw hs[1], vw hs[2], vw hs[3], vw hs[4], vw hs[5], vw hs[6], vw hs[7]] 274)) hs ks ws) := ⟨hF.out.h.alloc _, hF.out.k.alloc _, hF.out.o.alloc _, hF.out.v.alloc _, hF.out.b.alloc hF.out.b.size _⟩
          have hg : w.heap.size + 1 + 1 + 1 < wr.heap.size := hF.out.v.lt
          clear q0 q1 q2 q3 q4 q5 q6 q7
          generalize wr = wp at *
          have hrow0 : (V8.of hs).list.map vw = [vw hs[0], vw hs[1], vw hs[2], vw hs[3], vw hs[4], vw hs[5], vw hs[6], vw hs[7]] := by rw [← list8 hl]; match hs, hl with | [a, b, c, d, e, f, g, i], _ => rfl
          have HR0 := Lib.hid hrow0
          clear hrow0 hF
          go_loopw [13] (fun i wx => ∃ (k : Nat) (v : V8), k ≤ 64 ∧ i = .int .i64 k ∧ Hid (v = rnds ks ws (V8.of hs) k) ∧ Hid (Arr wx wp.heap.size 274 (v.list.map vw)) ∧ Hid (Four w wx hs ks ws)) (fun i _ => 64 - (intOf i).toNat)
          case atStart => exact ⟨0, V8.of hs, by omega, rfl, rfl, HR0.out ▸ HV0.out, HF0⟩
          case round =>
            obtain ⟨k, ⟨v0, v1, v2, v3, v4, v5, v6, v7⟩, hk3, rfl, hv, qV, qF⟩ := hrel
            clear HV0 HF0 HR0 hlt
            by_cases hlt : k < 64
            · have kkl : k < ks.length := by omega
              have kwl : k < ws.length := by omega
              have q0 : wr.cell? ⟨wp.heap.size, 0, none⟩ = some (vw v0) := qV.out.cell (j := 0) (by simp [V8.list])
              have q1 : wr.cell? ⟨wp.heap.size, 1, none⟩ = some (vw v1) := qV.out.cell (j := 1) (by simp [V8.list])
              have q2 : wr.cell? ⟨wp.heap.size, 2, none⟩ = some (vw v2) := qV.out.cell (j := 2) (by simp [V8.list])
              have q3 : wr.cell? ⟨wp.heap.size, 3, none⟩ = some (vw v3) := qV.out.cell (j := 3) (by simp [V8.list])
              have q4 : wr.cell? ⟨wp.heap.size, 4, none⟩ = some (vw v4) := qV.out.cell (j := 4) (by simp [V8.list])
              have q5 : wr.cell? ⟨wp.heap.size, 5, none⟩ = some (vw v5) := qV.out.cell (j := 5) (by simp [V8.list])
              have q6 : wr.cell? ⟨wp.heap.size, 6, none⟩ = some (vw v6) := qV.out.cell (j := 6) (by simp [V8.list])
              have q7 : wr.cell? ⟨wp.heap.size, 7, none⟩ = some (vw v7) := qV.out.cell (j := 7) (by simp [V8.list])
              have yk := qF.out.k.cell (j := k) (by simpa using kkl)
              have yw := qF.out.v.cell (j := k) (by simpa using kwl)
              rw [List.getElem_map] at yk yw
              obtain ⟨kk, hkk⟩ : ∃ z, ks[k] = z := ⟨_, rfl⟩
              obtain ⟨x, hx⟩ : ∃ z, ws[k] = z := ⟨_, rfl⟩
              rw [hkk] at yk
              rw [hx] at yw
              have hi1 : (0 : Int) ≤ (k : Int) := by omega
              have hi2 : (k : Int) < 64 := by omega
              have HN : Hid (rnd kk x ⟨v0, v1, v2, v3, v4, v5, v6, v7⟩ = rnds ks ws (V8.of hs) (k + 1)) := by
                show _ = _
                rw [rnds, ← hv.out, ← getD_of kkl, ← getD_of kwl, hkk, hx]
              clear hkk hx hv
              go_wp2
              go_quiet ((go_at_call 211; exact Calls.quiet_of_same (turn_any _ _ (by decide) _)))
              have p0 : (wr.drewN nq).cell? ⟨wp.heap.size, 0, none⟩ = some (vw v0) := q0
              have p1 : (wr.drewN nq).cell? ⟨wp.heap.size, 1, none⟩ = some (vw v1) := q1
              have p2 : (wr.drewN nq).cell? ⟨wp.heap.size, 2, none⟩ = some (vw v2) := q2
              have p3 : (wr.drewN nq).cell? ⟨wp.heap.size, 3, none⟩ = some (vw v3) := q3
              have p4 : (wr.drewN nq).cell? ⟨wp.heap.size, 4, none⟩ = some (vw v4) := q4
              have p5 : (wr.drewN nq).cell? ⟨wp.heap.size, 5, none⟩ = some (vw v5) := q5
              have p6 : (wr.drewN nq).cell? ⟨wp.heap.size, 6, none⟩ = some (vw v6) := q6
              have p7 : (wr.drewN nq).cell? ⟨wp.heap.size, 7, none⟩ = some (vw v7) := q7
              have pk : (wr.drewN nq).cell? ⟨w.heap.size + 1, k, none⟩ = some (vw kk) := yk
              have pw : (wr.drewN nq).cell? ⟨w.heap.size + 1 + 1 + 1, k, none⟩ = some (vw x) := yw
              have pV := Lib.hid (qV.out.drewN nq)
              have pF := Lib.hid (qF.out.drewN nq)
              clear q0 q1 q2 q3 q4 q5 q6 q7 qV qF yk yw
              generalize wr.drewN nq = wq at *
              go_wp2
              go_quiet (fail)
              have r0 : (wq.drewN nq).cell? ⟨wp.heap.size, 0, none⟩ = some (vw v0) := p0
              have r1 : (wq.drewN nq).cell? ⟨wp.heap.size, 1, none⟩ = some (vw v1) := p1
              have r2 : (wq.drewN nq).cell? ⟨wp.heap.size, 2, none⟩ = some (vw v2) := p2
              have r3 : (wq.drewN nq).cell? ⟨wp.heap.size, 3, none⟩ = some (vw v3) := p3
              have r4 : (wq.drewN nq).cell? ⟨wp.heap.size, 4, none⟩ = some (vw v4) := p4
              have r5 : (wq.drewN nq).cell? ⟨wp.heap.size, 5, none⟩ = some (vw v5) := p5
              have r6 : (wq.drewN nq).cell? ⟨wp.heap.size, 6, none⟩ = some (vw v6) := p6
              have r7 : (wq.drewN nq).cell? ⟨wp.heap.size, 7, none⟩ = some (vw v7) := p7
              have rV := Lib.hid (pV.out.drewN nq)
              have rF := Lib.hid (pF.out.drewN nq)
              clear pk pw
              clear p0 p1 p2 p3 p4 p5 p6 p7 pV pF
              generalize wq.drewN nq = wt at *
              go_wp2
              go_quiet ((go_at_call 211; exact Calls.quiet_of_same (turn_any _ _ (by decide) _)))
              have s0 : (wt.drewN nq).cell? ⟨wp.heap.size, 0, none⟩ = some (vw v0) := r0
              have s1 : (wt.drewN nq).cell? ⟨wp.heap.size, 1, none⟩ = some (vw v1) := r1
              have s2 : (wt.drewN nq).cell? ⟨wp.heap.size, 2, none⟩ = some (vw v2) := r2
              have s3 : (wt.drewN nq).cell? ⟨wp.heap.size, 3, none⟩ = some (vw v3) := r3
              have s4 : (wt.drewN nq).cell? ⟨wp.heap.size, 4, none⟩ = some (vw v4) := r4
              have s5 : (wt.drewN nq).cell? ⟨wp.heap.size, 5, none⟩ = some (vw v5) := r5
              have s6 : (wt.drewN nq).cell? ⟨wp.heap.size, 6, none⟩ = some (vw v6) := r6
              have s7 : (wt.drewN nq).cell? ⟨wp.heap.size, 7, none⟩ = some (vw v7) := r7
              have sV := Lib.hid (rV.out.drewN nq)
              have sF := Lib.hid (rF.out.drewN nq)
              clear r0 r1 r2 r3 r4 r5 r6 r7 rV rF
              generalize wt.drewN nq = wz at *
              have f0 : wz.frozen? ⟨wp.heap.size, 0, none⟩ = false := sV.out.frozen 0
              have f1 : wz.frozen? ⟨wp.heap.size, 1, none⟩ = false := sV.out.frozen 1
              have f2 : wz.frozen? ⟨wp.heap.size, 2, none⟩ = false := sV.out.frozen 2
              have f3 : wz.frozen? ⟨wp.heap.size, 3, none⟩ = false := sV.out.frozen 3
              have f4 : wz.frozen? ⟨wp.heap.size, 4, none⟩ = false := sV.out.frozen 4
              have f5 : wz.frozen? ⟨wp.heap.size, 5, none⟩ = false := sV.out.frozen 5
              have f6 : wz.frozen? ⟨wp.heap.size, 6, none⟩ = false := sV.out.frozen 6
              have f7 : wz.frozen? ⟨wp.heap.size, 7, none⟩ = false := sV.out.frozen 7
              go_wp2
              go_roundw
              case rel =>
                refine ⟨k + 1, rnd kk x ⟨v0, v1, v2, v3, v4, v5, v6, v7⟩, by omega, by go_num, HN, ?_, ?_⟩
                · exact (((((((sV.out.set 0 (vw ((oneE ⟨v0, v1, v2, v3, v4, v5, v6, v7⟩ kk x + twoE ⟨v0, v1, v2, v3, v4, v5, v6, v7⟩) % 4294967296))).set 1 (vw v0)).set 2 (vw v1)).set 3 (vw v2)).set 4 (vw ((v3 + oneE ⟨v0, v1, v2, v3, v4, v5, v6, v7⟩ kk x) % 4294967296))).set 5 (vw v4)).set 6 (vw v5)).set 7 (vw v6)
                · exact (((((((sF.out.far hg 0 _).far hg 1 _).far hg 2 _).far hg 3 _).far hg 4 _).far hg 5 _).far hg 6 _).far hg 7 _
              case measure => simp [intOf]; omega
            · have hk65 : 64 ≤ k := by omega
              obtain ⟨vs, hvs⟩ : ∃ z : List Int, [v0, v1, v2, v3, v4, v5, v6, v7] = z := ⟨_, rfl⟩
              have hvl : Hid (vs.length = 8) := by show _ = _; rw [← hvs]; rfl
              have hend : Hid (addW hs vs = mixed8 hs ks m) := by
                show _ = _
                have e : k = 64 := by omega
                rw [mixed8, ← HWS.out, ← e, ← hv.out, ← hvs]; rfl
              have qX : Hid (Arr wr wp.heap.size 274 (vs.map vw)) := by show Arr _ _ _ _; rw [← hvs]; exact qV.out
              clear hvs hv qV
              obtain ⟨k2, rfl⟩ : ∃ k0, k0 = k := ⟨_, rfl⟩
              go_wp2
              go_loopw [18] (fun i wx => ∃ (k : Nat) (hh : List Int), k ≤ 8 ∧ i = .int .i64 k ∧ Hid (hh.length = 8 ∧ hh.take k = (addW hs vs).take k ∧ hh.drop k = hs.drop k) ∧ Hid (Four w wx hh ks ws) ∧ Hid (Arr wx wp.heap.size 274 (vs.map vw))) (fun i _ => 8 - (intOf i).toNat)
              case atStart => exact ⟨0, hs, by omega, rfl, ⟨hl, rfl, rfl⟩, qF, qX⟩
              case round =>
                clear qF qX hlt
                obtain ⟨k, hh, hk4, rfl, hH, hF, hX⟩ := hrel
                by_cases hlt : k < 8
                · have hsl : k < hs.length := by omega
                  have hvk : k < vs.length := by rw [hvl.out]; omega
                  obtain ⟨s1, s2, s3⟩ := addW_step hlt hl hvl.out hH.out.1 hH.out.2.1 hH.out.2.2
                  have y0 := hF.out.h.cell (j := k) (by simp; have := hH.out.1; omega)
                  have y1 := hF.out.h.frozen k
                  have x0 := hX.out.cell (j := k) (by simpa using hvk)
                  rw [List.getElem_map] at y0 x0
                  rw [s1] at y0
                  obtain ⟨x, hx⟩ : ∃ z, vs[k] = z := ⟨_, rfl⟩
                  obtain ⟨y, hy⟩ : ∃ z, hs[k] = z := ⟨_, rfl⟩
                  rw [hx] at x0 s2 s3
                  rw [hy] at y0 s2 s3
                  have HN : Hid ((hh.set k ((y + x) % 4294967296)).length = 8 ∧ (hh.set k ((y + x) % 4294967296)).take (k + 1) = (addW hs vs).take (k + 1) ∧ (hh.set k ((y + x) % 4294967296)).drop (k + 1) = hs.drop (k + 1)) := ⟨by rw [List.length_set]; exact hH.out.1, s2, s3⟩
                  have HF2 := Lib.hid (hF.out.setH k ((y + x) % 4294967296))
                  have HX2 := Lib.hid (hX.out.far (a := ⟨w.heap.size, k, none⟩) (by show wp.heap.size ≠ w.heap.size; omega) (vw ((y + x) % 4294967296)))
                  have i1 : (0 : Int) ≤ (k : Int) := by omega
                  have i2 : (k : Int) < 8 := by omega
                  clear s1 s2 s3 hx hy hF hX hH
                  go_wp2
                  go_region_with (fail)
                  all_goals
                    go_wp2
                    exact ⟨⟨k + 1, _, by omega, by go_num, HN, HF2.out.drew, HX2.out.drew⟩, by simp [intOf]; omega⟩
                · have HE : Hid (hh = mixed8 hs ks m) := by
                    show _ = _
                    have e : k = 8 := by omega
                    obtain ⟨h1, h2, -⟩ := hH.out
                    rw [e, List.take_of_length_le (by omega), List.take_of_length_le (by rw [addW_len hl hvl.out]; omega)] at h2
                    rw [h2, hend.out]
                  have hhl := hH.out.1
                  have HR5 := Lib.hid hF.out.h.range
                  have HT5 := Lib.hid (hF.out.o.there (n := (hh.map vw).toArray.size) (by simp [hhl]))
                  have HO5 := Lib.hid (hF.out.o.store (new := (hh.map vw).toArray.toList) (by simp [hhl]))
                  have HI5 : Hid ((Tryz.prog.info? 274).map (·.size) = some (hh.map vw).length) := by show _ = _; rw [List.length_map, hhl]; kernel_rfl
                  have HI6 : Hid ((Tryz.prog.info? 274).map (·.size) = some (hh.map vw).toArray.size) := by show _ = _; rw [List.size_toArray]; exact HI5.out
                  have HS5 : Hid ((hh.map vw).toArray.all (·.oneCell') = true) := all_oneCell_toArray (by intro v hv; obtain ⟨x, -, rfl⟩ := List.mem_map.1 hv; rfl)
                  have HB5 := Lib.hid hF.out.b
                  have tok1 : True := trivial
                  clear hF hX hH hhl
                  go_wp2_with (first | (have _t := tok1; refine wpList_load_mid rfl 274 _ rfl w.heap.size 0 rfl (hh.map vw) _ HR5.out Tryz.underlying274 rfl HI5.out ?_; clear tok1 _t; have tok2 : True := trivial) | (have _t := tok2; refine wpList_store_mid (by rfl) 274 _ _ (by rfl) (w.heap.size + 1 + 1) 0 (hh.map vw).toArray (by rfl) (by rfl) HT5.out HI6.out HS5.out ?_; clear tok2 _t))
                  rw [← HE.out]
                  exact ret_arr Tryz.results197 rfl rfl HO5.out Tryz.underlying274 rfl (by simpa using HI5.out) ⟨rfl, below_cells (by omega) _ _ HB5.out⟩
end Go.Proofs.YtinijohmdljieaaGreatDoor
