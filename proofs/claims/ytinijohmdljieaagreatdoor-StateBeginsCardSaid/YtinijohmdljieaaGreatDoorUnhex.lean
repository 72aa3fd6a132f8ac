/- hash.Unhex. -/
import Derived.Test.YtinijohmdljieaaGreatDoorSame
namespace Go.Proofs.YtinijohmdljieaaGreatDoor
open Go.RowKit

def sixteens : ByteArray := ⟨#[48, 49, 50, 51, 52, 53, 54, 55, 56, 57, 97, 98, 99, 100, 101, 102]⟩
/-- what a sixteen is worth -/
def hv (c : UInt8) : Int := Lib.indexByte sixteens.data.toList c
theorem hv_bd (c : UInt8) : -1 ≤ hv c ∧ hv c < 16 := by
  have : ∀ n : Fin 256, -1 ≤ hv (UInt8.ofNat n.val) ∧ hv (UInt8.ofNat n.val) < 16 := by decide +kernel
  have h := this ⟨c.toNat, c.toNat_lt⟩
  simpa using h
def uAt (s : List UInt8) (k j : Nat) : UInt8 := if 2 * j + 1 < k then b8 (16 * hv (s.getD (2 * j) 0) + hv (s.getD (2 * j + 1) 0)) else if 2 * j < k then b8 (hv (s.getD (2 * j) 0)) else 0
def uRow (s : List UInt8) (k : Nat) : List UInt8 := (List.range (s.length / 2)).map (uAt s k)
def unhex (s : List UInt8) : Option (List UInt8) := if s.length % 2 = 0 ∧ s.all (fun c => decide (0 ≤ hv c)) then some (uRow s s.length) else none
theorem uRow_len (s : List UInt8) (k : Nat) : (uRow s k).length = s.length / 2 := by simp [uRow]
theorem uRow_zero (s : List UInt8) : uRow s 0 = List.replicate (s.length / 2) 0 := by
  apply List.ext_getElem
  · simp [uRow]
  · intro i h1 h2
    simp [uRow, uAt]
theorem uRow_get (s : List UInt8) (k j : Nat) (_h : j < s.length / 2) : (uRow s k)[j]'(by rw [uRow_len]; exact _h) = uAt s k j := by simp [uRow]
theorem b8_toNat (z : Int) (h : 0 ≤ z) (h2 : z < 256) : ((b8 z).toNat : Int) = z := by rw [iv_b8]; omega
/-- one more sixteen -/
theorem uRow_next (s : List UInt8) (k x : Nat) (hx : x = (uAt s k (k / 2)).toNat) (n : Nat) (hn : hv (s.getD k 0) = n) (hp : k % 2 = 1 → 0 ≤ hv (s.getD (k - 1) 0)) (hn16 : n < 16) :
    x * 16 % 256 < 256 ∧ uRow s (k + 1) = (uRow s k).set (k / 2) (UInt8.ofNat (x * 16 % 256 ||| n)) := by
  refine ⟨by omega, ?_⟩
  apply List.ext_getElem
  · simp [uRow]
  · intro i h1 h3
    rw [uRow_len] at h1
    rw [uRow_get _ _ _ h1, List.getElem_set]
    split
    · rename_i he
      subst he
      by_cases hk : k % 2 = 0
      · have e1 : 2 * (k / 2) = k := by omega
        have e0 : uAt s k (k / 2) = 0 := by
          unfold uAt; rw [if_neg (by omega), if_neg (by omega)]
        have ex : x = 0 := by rw [hx, e0]; rfl
        have e2 : uAt s (k + 1) (k / 2) = b8 (hv (s.getD k 0)) := by
          unfold uAt; rw [if_neg (by omega), if_pos (by omega), e1]
        rw [e2, hn, ex]
        simp [b8]
        congr 1; omega
      · have e1 : 2 * (k / 2) = k - 1 := by omega
        have e2 : k - 1 + 1 = k := by omega
        have hp' := hp (by omega)
        have hb := hv_bd (s.getD (k - 1) 0)
        have e0 : uAt s k (k / 2) = b8 (hv (s.getD (k - 1) 0)) := by
          simp only [uAt, e1, e2]
          rw [if_neg (by omega), if_pos (by omega)]
        have e3 : uAt s (k + 1) (k / 2) = b8 (16 * hv (s.getD (k - 1) 0) + hv (s.getD k 0)) := by
          simp only [uAt, e1, e2]
          rw [if_pos (by omega)]
        obtain ⟨m, hm⟩ : ∃ m : Nat, hv (s.getD (k - 1) 0) = m := ⟨(hv (s.getD (k - 1) 0)).toNat, by omega⟩
        have hm16 : m < 16 := by omega
        have hxm : x = m := by
          have := b8_toNat m (by omega) (by omega)
          rw [e0, hm] at hx; omega
        rw [e3, hm, hn, hxm]
        have : ∀ m n : Fin 16, b8 (16 * (m.val : Int) + (n.val : Int)) = UInt8.ofNat (m.val * 16 % 256 ||| n.val) := by decide +kernel
        exact this ⟨m, hm16⟩ ⟨n, hn16⟩
    · rename_i hne
      rw [uRow_get _ _ _ h1]
      unfold uAt
      by_cases hl : 2 * i + 1 < k
      · rw [if_pos (by omega), if_pos hl]
      · rw [if_neg (by omega), if_neg hl]
        by_cases hl2 : 2 * i < k
        · rw [if_pos (by omega), if_pos hl2]
        · rw [if_neg (by omega), if_neg hl2]

/-- 'make([]byte, n)' -/
theorem make_arr (w : World) (n : Nat) (hn : n ≤ 1000000) : ∃ w', (Instr.makeSlice 152 (.int .i64 n) (.int .i64 n)).run Tryz.prog w = .ok (.slice (some ⟨w.heap.size, 0, none⟩) n n) w' ∧ Arr w' w.heap.size 5 ((List.replicate n (0 : UInt8)).map bv) ∧ Below w.heap.size w w' := by
  have hz : (Tryz.prog.info? 5).map (fun i => (i.zero, i.size, i.bytes)) = some (some (.int .u8 0), 1, 1) := by kernel_rfl
  obtain ⟨i, hi, hz0, hz1, hz2⟩ := info_parts hz
  have hr := run_make w 152 5 i (.int .u8 0) Tryz.underlying152 hi hz0 .i64 .i64 n n (by omega) (by omega) (by rw [hz2]; omega) (by omega)
  simp only [Int.toNat_natCast, hz1, Nat.mul_one] at hr
  have e : madeCells (Value.int .u8 0).cells n = ((List.replicate n (0 : UInt8)).map bv).toArray := by
    apply Array.ext
    · simp [size_madeCells]
    · intro j h1 h2
      simp [madeCells, Value.cells, Nat.mod_one]
  rw [e] at hr
  exact ⟨_, hr, Arr.new _ _ _, (Below.refl _ _).alloc (Nat.le_refl _) _⟩

/-- what Unhex hands back -/
def UnhexEnd (r : Option (List UInt8)) (w : World) (e : Ending) (w' : World) : Prop :=
  (r = none ∧ e = .returned (.tuple #[.slice none 0 0, .int .i64 3]) ∨ ∃ b, r = some b ∧ e = .returned (.tuple #[.slice (some ⟨w.heap.size, 0, none⟩) b.length b.length, .int .i64 0]) ∧ Arr w' w.heap.size 5 (b.map bv)) ∧ Below w.heap.size w w'
theorem set_map_bv (l : List UInt8) (j n : Nat) (h : n < 256) : (l.map bv).set j (.int .u8 n) = (l.set j (UInt8.ofNat n)).map bv := by
  rw [List.map_set]
  congr 1
  simp [bv, UInt8.toNat_ofNat', Nat.mod_eq_of_lt h]

set_option maxHeartbeats 4000000 in
set_option maxRecDepth 100000 in
theorem Unhex_walk (s : ByteArray) (w : World) (hs : s.size ≤ 1000000) :
    Calls Tryz.prog 78 #[.string s] w (UnhexEnd (unhex s.data.toList) w) := by
  obtain ⟨r, hr⟩ : ∃ r, unhex s.data.toList = r := ⟨_, rfl⟩
  rw [hr]
  have HR := Lib.hid hr
  clear hr
  by_cases h2 : s.size % 2 = 0
  · have hd : ¬ (0 < (s.size : Int) % 2) := by omega
    obtain ⟨m, hm⟩ : ∃ m : Nat, s.size = 2 * m := ⟨s.size / 2, by omega⟩
    have hq : (s.size : Int) / 2 = (m : Int) := by omega
    obtain ⟨w1, hmk, hA, hB⟩ := make_arr w m (by omega)
    have HA : Hid (Arr w1 w.heap.size 5 ((uRow s.data.toList 0).map bv)) := by
      show Arr _ _ _ _
      rw [uRow_zero, ba_len, show s.size / 2 = m by omega]; exact hA
    have HB := Lib.hid hB
    clear hA hB
    have HM := Lib.hid hm
    clear hm
    go_enter Tryz.func78, Tryz.ntmps78
    go_wp2
    clear hmk
    go_loopw [17] (fun i wr => ∃ k : Nat, k ≤ s.size ∧ i = .int .i64 k ∧ Hid (∀ j, j < k → 0 ≤ hv (s.data.toList.getD j 0)) ∧ Hid (Arr wr w.heap.size 5 ((uRow s.data.toList k).map bv)) ∧ Hid (Below w.heap.size w wr)) (fun i _ => s.size - (intOf i).toNat)
    case atStart => exact ⟨0, by omega, rfl, fun j hj => by omega, HA, HB⟩
    case round =>
      clear HA HB
      obtain ⟨k, hk, rfl, hP, hA, hB⟩ := hrel
      by_cases hlt : k < s.size
      · have hix := Tryz.strings_IndexByte sixteens (s[k].toNat : Int) wr
        have e0 : ((s[k].toNat : Int).toNat.toUInt8) = s.data.toList.getD k 0 := by
          rw [List.getD_eq_getElem?_getD, List.getElem?_eq_getElem (show k < s.data.toList.length from hlt)]
          simp [ByteArray.getElem_eq_getElem_data]
        rw [e0, show Lib.indexByte sixteens.data.toList (s.data.toList.getD k 0) = hv (s.data.toList.getD k 0) from rfl] at hix
        have HIX := Lib.hid hix
        have hbd := hv_bd (s.data.toList.getD k 0)
        obtain ⟨z, hz⟩ : ∃ z, hv (s.data.toList.getD k 0) = z := ⟨_, rfl⟩
        rw [hz] at HIX hbd
        have HZ := Lib.hid hz
        clear hix e0 hz
        by_cases hneg : z < 0
        · have HN : Hid (r = none) := by
            show _ = _
            rw [← HR.out, unhex, if_neg]
            intro h
            have := List.all_eq_true.1 h.2 (s.data.toList.getD k 0) (by simp [List.getD_eq_getElem?_getD, List.getElem?_eq_getElem (show k < s.data.toList.length from hlt)])
            rw [HZ.out] at this
            simp at this; omega
          go_wp2_with fail
          refine HIX.out.mono ?_
          rintro e w2 ⟨rfl, rfl⟩
          go_wp2
          go_ret2
          exact ⟨.inl ⟨HN.out, rfl⟩, hB.out⟩
        · obtain ⟨n, rfl⟩ : ∃ n : Nat, z = n := ⟨z.toNat, by omega⟩
          have hkm : k / 2 < m := by have := HM.out; omega
          have hul := uRow_len s.data.toList k
          rw [ba_len, show s.size / 2 = m by have := HM.out; omega] at hul
          have c0 := hA.out.cell (j := k / 2) (by rw [List.length_map, hul]; exact hkm)
          have c1 := hA.out.frozen (k / 2)
          rw [List.getElem_map, uRow_get _ _ _ (by rw [ba_len]; have := HM.out; omega)] at c0
          obtain ⟨x, hx⟩ : ∃ x, (uAt s.data.toList k (k / 2)).toNat = x := ⟨_, rfl⟩
          obtain ⟨hx1, hx2⟩ := uRow_next s.data.toList k x hx.symm n HZ.out (fun _ => hP.out _ (by omega)) (by omega)
          rw [bv, hx] at c0
          have hx3 : x < 256 := by rw [← hx]; exact UInt8.toNat_lt _
          have hx4 : x * 16 % 256 ||| n < 256 := Nat.or_lt_two_pow (n := 8) (by omega) (by omega)
          have e2 : bits .or .u8 ((x : Int) * 16 % 256) (n : Int) = ((x * 16 % 256 ||| n : Nat) : Int) := by
            rw [← bits_or_u8 _ _ hx1 (by omega)]; rfl
          have hst := hA.out.set (k / 2) (.int .u8 ((x * 16 % 256 ||| n : Nat) : Int))
          rw [set_map_bv _ _ _ hx4, ← hx2] at hst
          have HST := Lib.hid hst
          have HBS := Lib.hid (hB.out.setCell (p := ⟨w.heap.size, k / 2, none⟩) (Nat.le_refl _) (.int .u8 ((x * 16 % 256 ||| n : Nat) : Int)))
          have HP2 : Hid (∀ j, j < k + 1 → 0 ≤ hv (s.data.toList.getD j 0)) := by
            intro j hj
            by_cases h : j < k
            · exact hP.out j h
            · obtain rfl : j = k := by omega
              rw [HZ.out]; omega
          have i1 : (0 : Int) ≤ (k : Int) / 2 := by omega
          have i2 : (k : Int) / 2 < (m : Int) := by omega
          have w1 : IntKind.u8.wrap (n : Int) = (n : Int) := by rw [wrap_u8]; omega
          clear hst hx hx2 hul hx1 hx4 hA hB hP hkm
          go_wp2_with fail
          refine HIX.out.mono ?_
          rintro e w2 ⟨rfl, rfl⟩
          go_wp2
          go_roundw
          case rel => exact ⟨k + 1, by omega, by go_num, HP2, HST, HBS⟩
          case measure => simp [intOf]; omega
      · obtain rfl : k = s.size := by omega
        have HN : Hid (r = some (uRow s.data.toList s.size)) := by
          show _ = _
          rw [← HR.out, unhex, if_pos]
          · rfl
          · refine ⟨by rw [ba_len]; exact h2, List.all_eq_true.2 fun c hc => ?_⟩
            obtain ⟨j, hj, rfl⟩ := List.getElem_of_mem hc
            have := hP.out j hj
            rw [List.getD_eq_getElem?_getD, List.getElem?_eq_getElem hj] at this
            simpa using this
        have hul := uRow_len s.data.toList s.size
        rw [ba_len, show s.size / 2 = m by have := HM.out; omega] at hul
        have HUL := Lib.hid hul
        clear hul hP
        go_wp2
        go_ret2
        exact ⟨.inr ⟨_, HN.out, by rw [HUL.out]; rfl, hA.out⟩, hB.out⟩
  · have hd : (0 < (s.size : Int) % 2) := by omega
    have HN : Hid (r = none) := by
      show _ = _
      rw [← HR.out, unhex, if_neg (fun h => h2 (by rw [← ba_len]; exact h.1))]
    go_enter Tryz.func78, Tryz.ntmps78
    go_wp2
    go_ret2
    exact ⟨.inl ⟨HN.out, rfl⟩, Below.refl _ _⟩

theorem hv_hx (n : Nat) (h : n < 16) : 0 ≤ hv (hx n) := by
  have : ∀ n : Fin 16, 0 ≤ hv (hx n.val) := by decide +kernel
  exact this ⟨n, h⟩
theorem unhex_hexB (bs : List UInt8) : (unhex (hexB bs)).isSome = true := by
  rw [unhex, if_pos]
  · rfl
  · refine ⟨by rw [hexB_len]; omega, List.all_eq_true.2 fun c hc => ?_⟩
    obtain ⟨b, -, hb⟩ := List.mem_flatMap.1 hc
    have hl := b.toNat_lt
    simp only [List.mem_cons, List.not_mem_nil, or_false] at hb
    rcases hb with rfl | rfl
    · simpa using hv_hx _ (by omega)
    · simpa using hv_hx _ (by omega)
end Go.Proofs.YtinijohmdljieaaGreatDoor
