/- hash.Sealed. -/
import Derived.Test.YtinijohmdljieaaGreatDoorKey
import Derived.Deep.RegionHeld3
import Derived.Deep.DrawnRows
namespace Go.Proofs.YtinijohmdljieaaGreatDoor
open Go.RowKit

attribute [local go_sem ↓] Go.wp_at_zero Go.wp_at_succ
/-- the digest by a secret, in plain words -/
def sealW (s bs : List UInt8) : List UInt8 := sha ((keyB s).map (xb 92) ++ sha ((keyB s).map (xb 54) ++ bs))
theorem sealW_len (s bs : List UInt8) : (sealW s bs).length = 32 := sha_len _
theorem rangeAt_below {B b o : Nat} {cs : List Value} {W w : World} (h : W.rangeAt b o cs) (hb : Below B W w) (hB : b < B) : w.rangeAt b o cs := fun j v hv => (hb.cell (p := ⟨b, o + j, none⟩) hB).trans (h j v hv)

theorem there_below {B b o n : Nat} {W w : World} (h : W.there b o n) (hb : Below B W w) (hB : b < B) : w.there b o n := fun j hj => by
  obtain ⟨h1, h2⟩ := h j hj
  exact ⟨by rw [hb.cell (p := ⟨b, o + j, none⟩) hB]; exact h1, (hb.frozen (p := ⟨b, o + j, none⟩) hB).trans h2⟩
theorem sum_two {g3 : Nat} {wy w5 : World} {kb inn D : List UInt8} {c : Int} (HD : Hid (sha (kb.map (xb c) ++ inn) = D)) (HKL : Hid (kb.length = 64)) (hI : Hid (Arr wy g3 214 (inn.map bv))) (hIL : Hid (inn.length = 32))
    (hA : Arr w5 wy.heap.size 250 ((kb.map (xb c)).map bv)) (hb : Below wy.heap.size wy w5) :
    Calls Tryz.prog 167 #[.slice (some ⟨w5.heap.size, 0, none⟩) 2 2] (w5.alloc (.cells #[.slice (some ⟨wy.heap.size, 0, none⟩) 64 64, .slice (some ⟨g3, 0, none⟩) 32 32] 152)) fun e w' => e = .returned (.agg (D.map bv).toArray) ∧ Below (w5.heap.size + 1) (w5.alloc (.cells #[.slice (some ⟨wy.heap.size, 0, none⟩) 64 64, .slice (some ⟨g3, 0, none⟩) 32 32] 152)) w' := by
  have hP := Pieces.two (B := w5.heap.size) (t := 152) (hA.bytes (n := 64) (B := w5.heap.size) (by simp [HKL.out]) hA.lt) ((hI.out.below hb hI.out.lt).bytes (n := 32) (B := w5.heap.size) hIL.out (Nat.lt_of_lt_of_le hI.out.lt hb.size)) (Nat.le_refl _)
  have := sum_walk (.slice (some ⟨w5.heap.size, 0, none⟩) 2 2) [kb.map (xb c), inn] (kb.map (xb c) ++ inn) (w5.alloc (.cells #[.slice (some ⟨wy.heap.size, 0, none⟩) 64 64, .slice (some ⟨g3, 0, none⟩) 32 32] 152)) (by simp) (by simpa using hP) (by simp [HKL.out, hIL.out]) (by simp)
  rw [HD.out] at this
  simpa using this

set_option maxHeartbeats 2000000 in
set_option maxRecDepth 100000 in
theorem Sealed_walk (vs v : Value) (s bs : List UInt8) (w : World) (hs : Bytes w.heap.size w vs s) (h : Bytes w.heap.size w v bs) (hsl : s.length ≤ 1000000) (hl : bs.length ≤ 900000) :
    Calls Tryz.prog 127 #[vs, v] w fun e w' => e = .returned (.agg ((sealW s bs).map bv).toArray) ∧ Below w.heap.size w w' := by
  have hb0 : Below w.heap.size w (w.alloc (.cells (List.replicate 32 (bv 0)).toArray 214)) := (Below.refl _ _).alloc (Nat.le_refl _) _
  have hs1 : (w.alloc (.cells (List.replicate 32 (bv 0)).toArray 214)).heap.size = w.heap.size + 1 := by simp
  have hK := key_walk vs s (w.alloc (.cells (List.replicate 32 (bv 0)).toArray 214)) (Row.mono (Bytes.below hs hb0) (by rw [hs1]; omega)) hsl
  have HH := Lib.hid h
  obtain ⟨a1, c1, b1, o1, rfl, -, -, -⟩ := hs.cells
  obtain ⟨a2, c2, b2, o2, rfl, -, -, -⟩ := h.cells
  have HK := Lib.hid hK; have HB0 := Lib.hid hb0; have HS1 := Lib.hid hs1; have HKL := Lib.hid (keyB_len s); have HN := Lib.hid (new32 w)
  clear hK hb0 hs1 hs h hsl
  obtain ⟨kb, hkb⟩ : ∃ z, keyB s = z := ⟨_, rfl⟩
  have HSW : Hid (sealW s bs = sha (kb.map (xb 92) ++ sha (kb.map (xb 54) ++ bs))) := by show _ = _; rw [← hkb]; rfl
  rw [hkb] at HK HKL
  clear hkb
  go_enter Tryz.func127, Tryz.ntmps127
  go_wp2_with fail
  refine HK.out.mono ?_
  rintro e w1 ⟨rfl, hb1⟩
  have hz1 := hb1.size
  rw [HS1.out] at hz1
  have hB1 := HB0.out.trans (hb1.mono (by rw [HS1.out]; omega))
  have HT := Lib.hid ((new64 w1).there (n := (kb.map bv).toArray.size) (by simp [HKL.out]))
  have HA1 := Lib.hid ((new64 w1).store (new := (kb.map bv).toArray.toList) (by simp [HKL.out]))
  have HX1 := Lib.hid (((HN.out.below hb1 (by rw [HS1.out]; omega)).alloc (.cells (List.replicate 64 (bv 0)).toArray 250)).farCells (new := (kb.map bv).toArray.toList) (o := 0) (b := w1.heap.size) (by omega))
  have HB2 := Lib.hid (below_cells (b := w1.heap.size) (B := w.heap.size) (by omega) (kb.map bv).toArray.toList 0 (hB1.alloc (by omega) (.cells (List.replicate 64 (bv 0)).toArray 250)))
  have HZ : Hid (((w1.alloc (.cells (List.replicate 64 (bv 0)).toArray 250)).setCells w1.heap.size 0 (kb.map bv).toArray.toList).heap.size = w1.heap.size + 1) := by
    show _ = _
    rw [size_cells]; simp
  clear hb1 hB1
  have tok1 : True := trivial
  go_wp2_with (first | (have _t := tok1; refine wpList_store_mid (by rfl) 250 _ _ (by rfl) w1.heap.size 0 (kb.map bv).toArray (by rfl) (by rfl) HT.out (info64 HKL.out) (bytes_one kb) ?_; clear tok1 _t; generalize hW : World.setCells _ w1.heap.size 0 (kb.map bv).toArray.toList = wz; have hA1 : Hid (Arr wz w1.heap.size 250 (kb.map bv)) := (by rw [← hW]; exact HA1.out : Arr _ _ _ _); have hX1 : Hid (Arr wz w.heap.size 214 (List.replicate 32 (bv 0))) := (by rw [← hW]; exact HX1.out : Arr _ _ _ _); have hB2 : Hid (Below w.heap.size w wz) := (by rw [← hW]; exact HB2.out : Below _ _ _); have hZ : Hid (wz.heap.size = w1.heap.size + 1) := (by rw [← hW]; exact HZ.out : _ = _); clear hW HA1 HX1 HB2 HZ HT; have HR := Lib.hid hA1.out.range; have tok2 : True := trivial) | (have _t := tok2; refine wpList_load_mid rfl 250 _ rfl w1.heap.size 0 rfl (kb.map bv) _ HR.out Tryz.underlying250 rfl (by simpa using info64 HKL.out) ?_; clear tok2 _t HR))
  refine (mixed_walk kb 54 HKL.out _).mono ?_
  rintro e w2 ⟨rfl, hA2, hb2⟩
  have hz2 := hb2.size
  rw [hZ.out] at hz2
  have hbz2 := hB2.out.trans (hb2.mono (by rw [hZ.out]; omega))
  have hP := Pieces.two (B := w2.heap.size) (t := 152) (hA2.bytes (n := 64) (B := w2.heap.size) (by simp [HKL.out]) hA2.lt) (Row.mono (Bytes.below HH.out hbz2) (by omega)) (Nat.le_refl _)
  have hsz2 : (w2.alloc (.cells #[.slice (some ⟨wz.heap.size, 0, none⟩) 64 64, .slice a2 bs.length c2] 152)).heap.size = w2.heap.size + 1 := by simp
  have HC := Lib.hid (sum_walk (.slice (some ⟨w2.heap.size, 0, none⟩) 2 2) [kb.map (xb 54), bs] (kb.map (xb 54) ++ bs) _ (by simp) (by rw [hsz2]; exact hP) (by simp [HKL.out]; omega) (by simp))
  have HSZ2 := Lib.hid hsz2
  have HBZ2 := Lib.hid (hbz2.alloc (by omega) (.cells #[.slice (some ⟨wz.heap.size, 0, none⟩) 64 64, .slice a2 bs.length c2] 152))
  have HA3 := Lib.hid ((hA1.out.below hb2 (by rw [hZ.out]; omega)).alloc (.cells #[.slice (some ⟨wz.heap.size, 0, none⟩) 64 64, .slice a2 bs.length c2] 152))
  have HX3 := Lib.hid ((hX1.out.below hb2 (by rw [hZ.out]; omega)).alloc (.cells #[.slice (some ⟨wz.heap.size, 0, none⟩) 64 64, .slice a2 bs.length c2] 152))
  obtain ⟨inn, hinn⟩ : ∃ z, sha (kb.map (xb 54) ++ bs) = z := ⟨_, rfl⟩
  have HIL : Hid (inn.length = 32) := by show _ = _; rw [← hinn]; exact sha_len _
  rw [hinn] at HC HSW
  clear hsz2 hP hbz2 hb2 hA2 hA1 hX1 hB2 hinn
  go_wp2_with fail
  refine HC.out.mono ?_
  rintro e w3 ⟨rfl, hb3⟩
  have hz3 := hb3.size
  rw [HSZ2.out] at hz3
  have HT := Lib.hid ((new32 w3).there (n := (inn.map bv).toArray.size) (by simp [HIL.out]))
  have HI4 := Lib.hid ((new32 w3).store (new := (inn.map bv).toArray.toList) (by simp [HIL.out]))
  have HK4 := Lib.hid (((HA3.out.below hb3 (by rw [HSZ2.out]; omega)).alloc (.cells (List.replicate 32 (bv 0)).toArray 214)).farCells (new := (inn.map bv).toArray.toList) (o := 0) (b := w3.heap.size) (by omega))
  have HX4 := Lib.hid (((HX3.out.below hb3 (by rw [HSZ2.out]; omega)).alloc (.cells (List.replicate 32 (bv 0)).toArray 214)).farCells (new := (inn.map bv).toArray.toList) (o := 0) (b := w3.heap.size) (by omega))
  have HB4 := Lib.hid (below_cells (b := w3.heap.size) (B := w.heap.size) (by omega) (inn.map bv).toArray.toList 0 ((HBZ2.out.trans (hb3.mono (by rw [HSZ2.out]; omega))).alloc (by omega) (.cells (List.replicate 32 (bv 0)).toArray 214)))
  have HZ4 : Hid (((w3.alloc (.cells (List.replicate 32 (bv 0)).toArray 214)).setCells w3.heap.size 0 (inn.map bv).toArray.toList).heap.size = w3.heap.size + 1) := by
    show _ = _
    rw [size_cells]; simp
  clear hb3 HC HA3 HX3 HBZ2 HSZ2
  have tok1 : True := trivial
  go_wp2_with (have _t := tok1; refine wpList_store_mid (by rfl) 214 _ _ (by rfl) w3.heap.size 0 (inn.map bv).toArray (by rfl) (by rfl) HT.out (info32 HIL.out) (bytes_one inn) ?_; clear tok1 _t; generalize hW : World.setCells _ w3.heap.size 0 (inn.map bv).toArray.toList = wy; have hI4 : Hid (Arr wy w3.heap.size 214 (inn.map bv)) := (by rw [← hW]; exact HI4.out : Arr _ _ _ _); have hK4 : Hid (Arr wy w1.heap.size 250 (kb.map bv)) := (by rw [← hW]; exact HK4.out : Arr _ _ _ _); have hX4 : Hid (Arr wy w.heap.size 214 (List.replicate 32 (bv 0))) := (by rw [← hW]; exact HX4.out : Arr _ _ _ _); have hB4 : Hid (Below w.heap.size w wy) := (by rw [← hW]; exact HB4.out : Below _ _ _); have hZ4 : Hid (wy.heap.size = w3.heap.size + 1) := (by rw [← hW]; exact HZ4.out : _ = _); clear hW HI4 HK4 HX4 HB4 HZ4 HT)
  obtain ⟨D, hD⟩ : ∃ z, sha (kb.map (xb 92) ++ inn) = z := ⟨_, rfl⟩
  have HDL : Hid (D.length = 32) := by show _ = _; rw [← hD]; exact sha_len _
  have HD := Lib.hid hD
  rw [hD] at HSW
  go_frame
  have hu1 := Tryz.underlying250
  have hi1 : (Tryz.prog.info? 250).map (·.size) = some (kb.map bv).length := by simpa using info64 HKL.out
  have hi2 : (Tryz.prog.info? 214).map (·.size) = some (D.map bv).length := by simpa using info32 HDL.out
  have hl2 : (D.map bv).length = 32 := by simp [HDL.out]
  have hD1 : ∀ v ∈ D.map bv, v.oneCell' = true := fun v hv => by obtain ⟨x, -, rfl⟩ := List.mem_map.1 hv; rfl
  have hr0 : wy.rangeAt w1.heap.size 0 (kb.map bv) := hK4.out.range
  have ht0 : wy.there w.heap.size 0 32 := hX4.out.there (by simp)
  have hlt1 : w1.heap.size < wy.heap.size := hK4.out.lt
  have hlt0 : w.heap.size < wy.heap.size := hX4.out.lt
  have hne : w1.heap.size ≠ w.heap.size := by omega
  clear hD hz1 hz2 hz3
  go_region_held3 (fun w' => w'.rangeAt w1.heap.size 0 (kb.map bv) ∧ w'.there w.heap.size 0 32) (first | exact ⟨hr0, ht0⟩ | exact ⟨rangeAt_below hr0 hb5 hlt1, there_below ht0 hb5 hlt0⟩ | exact ⟨World.rangeAt_alloc (rangeAt_below hr0 hb5 hlt1) _, World.there_alloc (there_below ht0 hb5 hlt0) _⟩ | exact ⟨hr6, ht6⟩ | exact ⟨World.rangeAt_setCells_apart hr6 _ _ _ (.inl hne), World.there_setCells ht6 _ _ _⟩ | go_keep_ranges)
    (first
      | (go_at_call 168; refine (mixed_walk kb 92 HKL.out _).mono ?_; rintro e w5 ⟨rfl, hA5, hb5⟩; replace hb5 : Below wy.heap.size wy w5 := ((Below.refl wy.heap.size wy).drew).trans hb5)
      | (go_at_call 167; refine (sum_two HD HKL hI4 HIL hA5 hb5).mono ?_; rintro e w6 ⟨rfl, hb6⟩; have hz5 : wy.heap.size ≤ w5.heap.size := hb5.size; have hr6 := rangeAt_below (World.rangeAt_alloc (rangeAt_below hr0 hb5 hlt1) _) hb6 (by omega); have ht6 := there_below (World.there_alloc (there_below ht0 hb5 hlt0) _) hb6 (by omega)))
  have hX6 := (((hX4.out.below hb5 hlt0).alloc (.cells #[.slice (some ⟨wy.heap.size, 0, none⟩) 64 64, .slice (some ⟨w3.heap.size, 0, none⟩) 32 32] 152)).below hb6 (by omega)).store (new := D.map bv) (by simp [HDL.out])
  have hB6 := below_cells (b := w.heap.size) (Nat.le_refl _) (D.map bv) 0 (((hB4.out.trans (hb5.mono (by omega))).alloc (by omega) (.cells #[.slice (some ⟨wy.heap.size, 0, none⟩) 64 64, .slice (some ⟨w3.heap.size, 0, none⟩) 32 32] 152)).trans (hb6.mono (by omega)))
  clear hr6 ht6 hne hr0 ht0
  go_wp2
  exact ret_arr Tryz.results127 rfl rfl hX6 Tryz.underlying214 rfl hi2 ⟨by rw [HSW.out], hB6⟩
end Go.Proofs.YtinijohmdljieaaGreatDoor
