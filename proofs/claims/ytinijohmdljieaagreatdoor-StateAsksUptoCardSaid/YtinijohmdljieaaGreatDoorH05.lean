/- hash.Unhex. What a name is; plain facts on texts as runes. The tokens' plain law: digits, points, texts. What was written in sixteens is read back. A text cut at its points, plain. -/
import Derived.Test.YtinijohmdljieaaGreatDoorH04
import Derived.Test.YtinijohmdljieaaGreatDoorH01
import Derived.Shelf.GgClosure.StringsIndexFunc
import Derived.Lib.SlTrimSet
import Derived.Lib.SplitLaws
namespace Go.Proofs.YtinijohmdljieaaGreatDoor
open Go.RowKit

def sixteens : ByteArray := ⟨#[48, 49, 50, 51, 52, 53, 54, 55, 56, 57, 97, 98, 99, 100, 101, 102]⟩
/-- what a sixteen is worth -/
def hv (c : UInt8) : Int := Lib.indexByte sixteens.data.toList c
theorem hv_bd (c : UInt8) : -1 ≤ hv c ∧ hv c < 16 := by
  have : ∀ n : Fin 256, -1 ≤ hv (UInt8.ofNat n.val) ∧ hv (UInt8.ofNat n.val) < 16 := by decide +kernel
  have h := this ⟨c.toNat, c.toNat_lt⟩
  simpa using h
def uAt (s : List UInt8) (k j : Nat) : UInt8 := if 2 * j + 1 < k then b8 (16 * hv (s.getD (2 * j) 0) + hv (s.getD (2 * j + 1) 0)) else if 2 * j < k then b8 (hv (s.getD (2 * j) 0)) else 0
def uRow (s : List UInt8) (k : Nat) : List UInt8 := (List.range (s.length / 2)).map (uAt s k)
def unhex (s : List UInt8) : Option (List UInt8) := if s.length % 2 = 0 ∧ s.all (fun c => decide (0 ≤ hv c)) then some (uRow s s.length) else none
theorem uRow_len (s : List UInt8) (k : Nat) : (uRow s k).length = s.length / 2 := by simp [uRow]
theorem uRow_zero (s : List UInt8) : uRow s 0 = List.replicate (s.length / 2) 0 := by
  apply List.ext_getElem
  · simp [uRow]
  · intro i h1 h2
    simp [uRow, uAt]
theorem uRow_get (s : List UInt8) (k j : Nat) (_h : j < s.length / 2) : (uRow s k)[j]'(by rw [uRow_len]; exact _h) = uAt s k j := by simp [uRow]
theorem b8_toNat (z : Int) (h : 0 ≤ z) (h2 : z < 256) : ((b8 z).toNat : Int) = z := by rw [iv_b8]; omega
/-- one more sixteen -/
theorem uRow_next (s : List UInt8) (k x : Nat) (hx : x = (uAt s k (k / 2)).toNat) (n : Nat) (hn : hv (s.getD k 0) = n) (hp : k % 2 = 1 → 0 ≤ hv (s.getD (k - 1) 0)) (hn16 : n < 16) :
    x * 16 % 256 < 256 ∧ uRow s (k + 1) = (uRow s k).set (k / 2) (UInt8.ofNat (x * 16 % 256 ||| n)) := by
  refine ⟨by omega, ?_⟩
  apply List.ext_getElem
  · simp [uRow]
  · intro i h1 h3
    rw [uRow_len] at h1
    rw [uRow_get _ _ _ h1, List.getElem_set]
    split
    · rename_i he
      subst he
      by_cases hk : k % 2 = 0
      · have e1 : 2 * (k / 2) = k := by omega
        have e0 : uAt s k (k / 2) = 0 := by
          unfold uAt; rw [if_neg (by omega), if_neg (by omega)]
        have ex : x = 0 := by rw [hx, e0]; rfl
        have e2 : uAt s (k + 1) (k / 2) = b8 (hv (s.getD k 0)) := by
          unfold uAt; rw [if_neg (by omega), if_pos (by omega), e1]
        rw [e2, hn, ex]
        simp [b8]
        congr 1; omega
      · have e1 : 2 * (k / 2) = k - 1 := by omega
        have e2 : k - 1 + 1 = k := by omega
        have hp' := hp (by omega)
        have hb := hv_bd (s.getD (k - 1) 0)
        have e0 : uAt s k (k / 2) = b8 (hv (s.getD (k - 1) 0)) := by
          simp only [uAt, e1, e2]
          rw [if_neg (by omega), if_pos (by omega)]
        have e3 : uAt s (k + 1) (k / 2) = b8 (16 * hv (s.getD (k - 1) 0) + hv (s.getD k 0)) := by
          simp only [uAt, e1, e2]
          rw [if_pos (by omega)]
        obtain ⟨m, hm⟩ : ∃ m : Nat, hv (s.getD (k - 1) 0) = m := ⟨(hv (s.getD (k - 1) 0)).toNat, by omega⟩
        have hm16 : m < 16 := by omega
        have hxm : x = m := by
          have := b8_toNat m (by omega) (by omega)
          rw [e0, hm] at hx; omega
        rw [e3, hm, hn, hxm]
        have : ∀ m n : Fin 16, b8 (16 * (m.val : Int) + (n.val : Int)) = UInt8.ofNat (m.val * 16 % 256 ||| n.val) := by decide +kernel
        exact this ⟨m, hm16⟩ ⟨n, hn16⟩
    · rename_i hne
      rw [uRow_get _ _ _ h1]
      unfold uAt
      by_cases hl : 2 * i + 1 < k
      · rw [if_pos (by omega), if_pos hl]
      · rw [if_neg (by omega), if_neg hl]
        by_cases hl2 : 2 * i < k
        · rw [if_pos (by omega), if_pos hl2]
        · rw [if_neg (by omega), if_neg hl2]

/-- 'make([]byte, n)' -/
theorem make_arr (w : World) (n : Nat) (hn : n ≤ 1000000) : ∃ w', (Instr.makeSlice 152 (.int .i64 n) (.int .i64 n)).run Tryz.prog w = .ok (.slice (some ⟨w.heap.size, 0, none⟩) n n) w' ∧ Arr w' w.heap.size 5 ((List.replicate n (0 : UInt8)).map bv) ∧ Below w.heap.size w w' := by
  have hz : (Tryz.prog.info? 5).map (fun i => (i.zero, i.size, i.bytes)) = some (some (.int .u8 0), 1, 1) := by kernel_rfl
  obtain ⟨i, hi, hz0, hz1, hz2⟩ := info_parts hz
  have hr := run_make w 152 5 i (.int .u8 0) Tryz.underlying152 hi hz0 .i64 .i64 n n (by omega) (by omega) (by rw [hz2]; omega) (by omega)
  simp only [Int.toNat_natCast, hz1, Nat.mul_one] at hr
  have e : madeCells (Value.int .u8 0).cells n = ((List.replicate n (0 : UInt8)).map bv).toArray := by
    apply Array.ext
    · simp [size_madeCells]
    · intro j h1 h2
      simp [madeCells, Value.cells, Nat.mod_one]
  rw [e] at hr
  exact ⟨_, hr, Arr.new _ _ _, (Below.refl _ _).alloc (Nat.le_refl _) _⟩

/-- what Unhex hands back -/
def UnhexEnd (r : Option (List UInt8)) (w : World) (e : Ending) (w' : World) : Prop :=
  (r = none ∧ e = .returned (.tuple #[.slice none 0 0, .int .i64 3]) ∨ ∃ b, r = some b ∧ e = .returned (.tuple #[.slice (some ⟨w.heap.size, 0, none⟩) b.length b.length, .int .i64 0]) ∧ Arr w' w.heap.size 5 (b.map bv)) ∧ Below w.heap.size w w'
theorem set_map_bv (l : List UInt8) (j n : Nat) (h : n < 256) : (l.map bv).set j (.int .u8 n) = (l.set j (UInt8.ofNat n)).map bv := by
  rw [List.map_set]
  congr 1
  simp [bv, UInt8.toNat_ofNat', Nat.mod_eq_of_lt h]

set_option maxHeartbeats 4000000 in
set_option maxRecDepth 100000 in
theorem Unhex_walk (s : ByteArray) (w : World) (hs : s.size ≤ 1000000) :
    Calls Tryz.prog 78 #[.string s] w (UnhexEnd (unhex s.data.toList) w) := by
  obtain ⟨r, hr⟩ : ∃ r, unhex s.data.toList = r := ⟨_, rfl⟩
  rw [hr]
  have HR := Lib.hid hr
  clear hr
  by_cases h2 : s.size % 2 = 0
  · have hd : ¬ (0 < (s.size : Int) % 2) := by omega
    obtain ⟨m, hm⟩ : ∃ m : Nat, s.size = 2 * m := ⟨s.size / 2, by omega⟩
    have hq : (s.size : Int) / 2 = (m : Int) := by omega
    obtain ⟨w1, hmk, hA, hB⟩ := make_arr w m (by omega)
    have HA : Hid (Arr w1 w.heap.size 5 ((uRow s.data.toList 0).map bv)) := by
      show Arr _ _ _ _
      rw [uRow_zero, ba_len, show s.size / 2 = m by omega]; exact hA
    have HB := Lib.hid hB
    clear hA hB
    have HM := Lib.hid hm
    clear hm
    go_enter Tryz.func78, Tryz.ntmps78
    go_wp2
    clear hmk
    go_loopw [17] (fun i wr => ∃ k : Nat, k ≤ s.size ∧ i = .int .i64 k ∧ Hid (∀ j, j < k → 0 ≤ hv (s.data.toList.getD j 0)) ∧ Hid (Arr wr w.heap.size 5 ((uRow s.data.toList k).map bv)) ∧ Hid (Below w.heap.size w wr)) (fun i _ => s.size - (intOf i).toNat)
    case atStart => exact ⟨0, by omega, rfl, fun j hj => by omega, HA, HB⟩
    case round =>
      clear HA HB
      obtain ⟨k, hk, rfl, hP, hA, hB⟩ := hrel
      by_cases hlt : k < s.size
      · have hix := Tryz.strings_IndexByte sixteens (s[k].toNat : Int) wr
        have e0 : ((s[k].toNat : Int).toNat.toUInt8) = s.data.toList.getD k 0 := by
          rw [List.getD_eq_getElem?_getD, List.getElem?_eq_getElem (show k < s.data.toList.length from hlt)]
          simp [ByteArray.getElem_eq_getElem_data]
        rw [e0, show Lib.indexByte sixteens.data.toList (s.data.toList.getD k 0) = hv (s.data.toList.getD k 0) from rfl] at hix
        have HIX := Lib.hid hix
        have hbd := hv_bd (s.data.toList.getD k 0)
        obtain ⟨z, hz⟩ : ∃ z, hv (s.data.toList.getD k 0) = z := ⟨_, rfl⟩
        rw [hz] at HIX hbd
        have HZ := Lib.hid hz
        clear hix e0 hz
        by_cases hneg : z < 0
        · have HN : Hid (r = none) := by
            show _ = _
            rw [← HR.out, unhex, if_neg]
            intro h
            have := List.all_eq_true.1 h.2 (s.data.toList.getD k 0) (by simp [List.getD_eq_getElem?_getD, List.getElem?_eq_getElem (show k < s.data.toList.length from hlt)])
            rw [HZ.out] at this
            simp at this; omega
          go_wp2_with fail
          refine HIX.out.mono ?_
          rintro e w2 ⟨rfl, rfl⟩
          go_wp2
          go_ret2
          exact ⟨.inl ⟨HN.out, rfl⟩, hB.out⟩
        · obtain ⟨n, rfl⟩ : ∃ n : Nat, z = n := ⟨z.toNat, by omega⟩
          have hkm : k / 2 < m := by have := HM.out; omega
          have hul := uRow_len s.data.toList k
          rw [ba_len, show s.size / 2 = m by have := HM.out; omega] at hul
          have c0 := hA.out.cell (j := k / 2) (by rw [List.length_map, hul]; exact hkm)
          have c1 := hA.out.frozen (k / 2)
          rw [List.getElem_map, uRow_get _ _ _ (by rw [ba_len]; have := HM.out; omega)] at c0
          obtain ⟨x, hx⟩ : ∃ x, (uAt s.data.toList k (k / 2)).toNat = x := ⟨_, rfl⟩
          obtain ⟨hx1, hx2⟩ := uRow_next s.data.toList k x hx.symm n HZ.out (fun _ => hP.out _ (by omega)) (by omega)
          rw [bv, hx] at c0
          have hx3 : x < 256 := by rw [← hx]; exact UInt8.toNat_lt _
          have hx4 : x * 16 % 256 ||| n < 256 := Nat.or_lt_two_pow (n := 8) (by omega) (by omega)
          have e2 : bits .or .u8 ((x : Int) * 16 % 256) (n : Int) = ((x * 16 % 256 ||| n : Nat) : Int) := by
            rw [← bits_or_u8 _ _ hx1 (by omega)]; rfl
          have hst := hA.out.set (k / 2) (.int .u8 ((x * 16 % 256 ||| n : Nat) : Int))
          rw [set_map_bv _ _ _ hx4, ← hx2] at hst
          have HST := Lib.hid hst
          have HBS := Lib.hid (hB.out.setCell (p := ⟨w.heap.size, k / 2, none⟩) (Nat.le_refl _) (.int .u8 ((x * 16 % 256 ||| n : Nat) : Int)))
          have HP2 : Hid (∀ j, j < k + 1 → 0 ≤ hv (s.data.toList.getD j 0)) := by
            intro j hj
            by_cases h : j < k
            · exact hP.out j h
            · obtain rfl : j = k := by omega
              rw [HZ.out]; omega
          have i1 : (0 : Int) ≤ (k : Int) / 2 := by omega
          have i2 : (k : Int) / 2 < (m : Int) := by omega
          have w1 : IntKind.u8.wrap (n : Int) = (n : Int) := by rw [wrap_u8]; omega
          clear hst hx hx2 hul hx1 hx4 hA hB hP hkm
          go_wp2_with fail
          refine HIX.out.mono ?_
          rintro e w2 ⟨rfl, rfl⟩
          go_wp2
          go_roundw
          case rel => exact ⟨k + 1, by omega, by go_num, HP2, HST, HBS⟩
          case measure => simp [intOf]; omega
      · obtain rfl : k = s.size := by omega
        have HN : Hid (r = some (uRow s.data.toList s.size)) := by
          show _ = _
          rw [← HR.out, unhex, if_pos]
          · rfl
          · refine ⟨by rw [ba_len]; exact h2, List.all_eq_true.2 fun c hc => ?_⟩
            obtain ⟨j, hj, rfl⟩ := List.getElem_of_mem hc
            have := hP.out j hj
            rw [List.getD_eq_getElem?_getD, List.getElem?_eq_getElem hj] at this
            simpa using this
        have hul := uRow_len s.data.toList s.size
        rw [ba_len, show s.size / 2 = m by have := HM.out; omega] at hul
        have HUL := Lib.hid hul
        clear hul hP
        go_wp2
        go_ret2
        exact ⟨.inr ⟨_, HN.out, by rw [HUL.out]; rfl, hA.out⟩, hB.out⟩
  · have hd : (0 < (s.size : Int) % 2) := by omega
    have HN : Hid (r = none) := by
      show _ = _
      rw [← HR.out, unhex, if_neg (fun h => h2 (by rw [← ba_len]; exact h.1))]
    go_enter Tryz.func78, Tryz.ntmps78
    go_wp2
    go_ret2
    exact ⟨.inl ⟨HN.out, rfl⟩, Below.refl _ _⟩

theorem hv_hx (n : Nat) (h : n < 16) : 0 ≤ hv (hx n) := by
  have : ∀ n : Fin 16, 0 ≤ hv (hx n.val) := by decide +kernel
  exact this ⟨n, h⟩
theorem unhex_hexB (bs : List UInt8) : (unhex (hexB bs)).isSome = true := by
  rw [unhex, if_pos]
  · rfl
  · refine ⟨by rw [hexB_len]; omega, List.all_eq_true.2 fun c hc => ?_⟩
    obtain ⟨b, -, hb⟩ := List.mem_flatMap.1 hc
    have hl := b.toNat_lt
    simp only [List.mem_cons, List.not_mem_nil, or_false] at hb
    rcases hb with rfl | rfl
    · simpa using hv_hx _ (by omega)
    · simpa using hv_hx _ (by omega)
end Go.Proofs.YtinijohmdljieaaGreatDoor

namespace Go.Proofs.YtinijohmdljieaaGreatDoor
open Go.RowKit

def nmB (c : UInt8) : Bool := (97 ≤ c.toNat && c.toNat ≤ 122) || (48 ≤ c.toNat && c.toNat ≤ 57) || c.toNat == 45 || c.toNat == 95 || c.toNat == 46
def nmR (r : Nat) : Bool := (97 ≤ r && r ≤ 122) || (48 ≤ r && r ≤ 57) || r == 45 || r == 95 || r == 46
def named (s : List UInt8) : Bool := !s.isEmpty && s.length ≤ 32 && s.all nmB

theorem nmB_yes {c : UInt8} (h : (97 ≤ (c.toNat : Int) ∧ (c.toNat : Int) ≤ 122) ∨ (48 ≤ (c.toNat : Int) ∧ (c.toNat : Int) ≤ 57) ∨ (c.toNat : Int) = 45 ∨ (c.toNat : Int) = 95 ∨ (c.toNat : Int) = 46) : nmB c = true := by
  simp [nmB]; omega
theorem nmB_no {c : UInt8} (h : ¬ ((97 ≤ (c.toNat : Int) ∧ (c.toNat : Int) ≤ 122) ∨ (48 ≤ (c.toNat : Int) ∧ (c.toNat : Int) ≤ 57) ∨ (c.toNat : Int) = 45 ∨ (c.toNat : Int) = 95 ∨ (c.toNat : Int) = 46)) : nmB c = false := by
  simp [nmB]; omega
theorem nmR_big {r : Nat} (h : 128 ≤ r) : nmR r = false := by simp [nmR]; omega

/-- a byte beyond ASCII opens a rune beyond ASCII -/
theorem decode_big (s : ByteArray) (i : Nat) (h : 128 ≤ (s.get! i).toNat) : 128 ≤ (Utf8.decode s i).1 := by
  have h0 : ¬ ((s.get! (i + 0)).toNat < 128) := by simpa using Nat.not_lt.2 h
  unfold Utf8.decode
  simp only [h0, if_false]
  repeat' split
  all_goals simp_all [Utf8.runeError]
  all_goals omega
theorem decode_small (s : ByteArray) (i : Nat) (h : (s.get! i).toNat < 128) : Utf8.decode s i = ((s.get! i).toNat, 1) := by
  have h0 : ((s.get! (i + 0)).toNat < 128) := by simpa using h
  unfold Utf8.decode
  simp only [h0, if_true]
  rfl
theorem get!_eq (s : ByteArray) (i : Nat) (h : i < s.size) : s.get! i = s[i] := by
  simp [ByteArray.get!, ByteArray.getElem_eq_getElem_data, getElem!_pos, h]

/-- no rune is found that is not of a name's: just where each byte is a name's -/
theorem idx_named (s : ByteArray) : ∀ (f pos : Nat), s.size ≤ pos + f → decide (0 ≤ Lib.idxFuncFrom (fun r => !nmR r) true s f pos) = !((s.data.toList.drop pos).all nmB)
  | 0, pos, h => by
    rw [List.drop_of_length_le (by rw [ba_len]; omega)]
    rfl
  | f + 1, pos, h => by
    unfold Lib.idxFuncFrom
    by_cases hp : pos < s.size
    · have hd : s.data.toList.drop pos = s[pos] :: s.data.toList.drop (pos + 1) := by
        rw [List.drop_eq_getElem_cons (by rw [ba_len]; exact hp)]; rfl
      rw [if_pos hp, hd, List.all_cons]
      by_cases hb : (s.get! pos).toNat < 128
      · rw [decode_small s pos hb]
        have hn : nmR (s.get! pos).toNat = nmB s[pos] := by rw [get!_eq s pos hp]; rfl
        dsimp only
        rw [hn]
        cases hc : nmB s[pos]
        · simp
        · simp only [Bool.not_true, Bool.false_eq_true, if_false, Bool.true_and]
          exact idx_named s f (pos + 1) (by omega)
      · have h1 := nmR_big (decode_big s pos (by omega))
        have h2 : nmB s[pos] = false := by
          rw [← get!_eq s pos hp]
          exact nmR_big (by omega)
        rw [h1, h2]; simp
    · rw [if_neg hp, List.drop_of_length_le (by rw [ba_len]; omega)]
      rfl

theorem idx_named_all (s : ByteArray) : decide (0 ≤ Lib.idxFunc (fun r => !nmR r) true s) = !(s.data.toList.all nmB) :=
  idx_named s s.size 0 (by omega)

def nameSigns : List UInt8 := [97, 98, 99, 100, 101, 102, 103, 104, 105, 106, 107, 108, 109, 110, 111, 112, 113, 114, 115, 116, 117, 118, 119, 120, 121, 122, 48, 49, 50, 51, 52, 53, 54, 55, 56, 57, 45, 95, 46]
theorem nameSigns_iff (c : UInt8) : nameSigns.contains c = nmB c := by
  have : ∀ n, n < 256 → nameSigns.contains (UInt8.ofNat n) = nmB (UInt8.ofNat n) := by decide +kernel
  have h := this c.toNat c.toNat_lt
  simpa using h
theorem dropWhile_all {p : UInt8 → Bool} : ∀ l : List UInt8, (l.dropWhile p).all p = l.all p
  | [] => rfl
  | b :: l => by
    cases h : p b
    · simp [List.dropWhile, h]
    · simp [List.dropWhile, h, dropWhile_all l]
theorem dropWhile_nil {p : UInt8 → Bool} : ∀ l : List UInt8, (l.dropWhile p).isEmpty = l.all p
  | [] => rfl
  | b :: l => by
    cases h : p b
    · simp [List.dropWhile, h]
    · simp [List.dropWhile, h, dropWhile_nil l]
theorem trim_named (l : List UInt8) : (Lib.trimS l nameSigns).isEmpty = l.all nmB := by
  have hp : (fun c => nameSigns.contains c) = nmB := funext nameSigns_iff
  unfold Lib.trimS Lib.trimLeftS Lib.trimRightS
  rw [hp, dropWhile_nil, List.all_reverse, dropWhile_all, List.all_reverse]
theorem named_zero {s : ByteArray} (h : ¬ 0 < s.size) : named s.data.toList = false := by
  have : s.data.toList = [] := List.eq_nil_of_length_eq_zero (by rw [ba_len]; omega)
  simp [named, this]
theorem named_long {s : ByteArray} (h : ¬ s.size ≤ 32) : named s.data.toList = false := by
  have : decide (s.data.toList.length ≤ 32) = false := by rw [ba_len]; simp; omega
  rw [named, this]; simp
theorem named_mid {s : ByteArray} (h0 : 0 < s.size) (h : s.size ≤ 32) : named s.data.toList = s.data.toList.all nmB := by
  have h1 : decide (s.data.toList.length ≤ 32) = true := by rw [ba_len]; simp; omega
  have h2 : s.data.toList.isEmpty = false := by
    cases hl : s.data.toList
    · have := ba_len s; rw [hl] at this; simp at this; omega
    · rfl
  rw [named, h1, h2]; simp
end Go.Proofs.YtinijohmdljieaaGreatDoor

namespace Go.Proofs.YtinijohmdljieaaGreatDoor
open Go.RowKit

/-- no points in digits or sixteens -/
theorem dec_nop (u : Nat) : 46 ∉ Lib.decDigits u := fun h => by
  have := (dec_dig u _ h).1
  simp at this
theorem hx_nop (n : Nat) (h : n < 16) : hx n ≠ 46 := by
  have : ∀ n : Fin 16, hx n.val ≠ 46 := by decide +kernel
  exact this ⟨n, h⟩
theorem hex_nop (bs : List UInt8) : 46 ∉ hexB bs := fun hc => by
  obtain ⟨b, -, hb⟩ := List.mem_flatMap.1 hc
  have hl := b.toNat_lt
  simp only [List.mem_cons, List.not_mem_nil, or_false] at hb
  rcases hb with h | h
  · exact hx_nop _ (by omega) h.symm
  · exact hx_nop _ (by omega) h.symm
/-- two texts, each up to its first point -/
theorem point_inj : ∀ {xs ys a b : List UInt8}, 46 ∉ xs → 46 ∉ ys → xs ++ 46 :: a = ys ++ 46 :: b → xs = ys ∧ a = b
  | [], [], _, _, _, _, h => ⟨rfl, by simpa using h⟩
  | [], y :: r, _, _, _, hy, h => by simp at h; exact absurd (h.1 ▸ List.mem_cons_self ..) hy
  | x :: r, [], _, _, hx, _, h => by simp at h; exact absurd (h.1 ▸ List.mem_cons_self ..) hx
  | x :: r, y :: s, a, b, hx, hy, h => by
    simp only [List.cons_append, List.cons.injEq] at h
    obtain ⟨h1, h2⟩ := point_inj (fun hm => hx (List.mem_cons_of_mem _ hm)) (fun hm => hy (List.mem_cons_of_mem _ hm)) h.2
    exact ⟨by rw [h.1, h1], h2⟩
theorem hx_inj (a b : Nat) (ha : a < 16) (hb : b < 16) (h : hx a = hx b) : a = b := by
  have : ∀ a b : Fin 16, hx a.val = hx b.val → a = b := by decide +kernel
  have := this ⟨a, ha⟩ ⟨b, hb⟩ h
  simpa using this
theorem hexB_inj : ∀ {xs ys : List UInt8}, hexB xs = hexB ys → xs = ys
  | [], [], _ => rfl
  | [], y :: r, h => by have := congrArg List.length h; rw [hexB_len, hexB_len] at this; simp at this
  | x :: r, [], h => by have := congrArg List.length h; rw [hexB_len, hexB_len] at this; simp at this
  | x :: r, y :: s, h => by
    have e : ∀ z (t : List UInt8), hexB (z :: t) = hx (z.toNat / 16) :: hx (z.toNat % 16) :: hexB t := fun z t => by simp [hexB]
    rw [e, e] at h
    simp only [List.cons.injEq] at h
    have lx := x.toNat_lt
    have ly := y.toNat_lt
    have h1 := hx_inj _ _ (by omega) (by omega) h.1
    have h2 := hx_inj _ _ (by omega) (by omega) h.2.1
    rw [hexB_inj h.2.2, UInt8.toNat_inj.1 (show x.toNat = y.toNat by omega)]

/-- a session's text and token -/
structure Sess where
  id : Int
  user : List UInt8
  untl : Int
def sessB (s : Sess) : Prop := 0 ≤ s.id ∧ s.id ≤ 2147483647 ∧ named s.user = true ∧ 0 ≤ s.untl ∧ s.untl ≤ 1099511627776
def textT (s : Sess) : List UInt8 := Lib.decDigits s.id.toNat ++ 46 :: (hexB s.user ++ 46 :: Lib.decDigits s.untl.toNat)
def madeT (secret : List UInt8) (s : Sess) : List UInt8 := textT s ++ 46 :: hexB (sealW secret (textT s))
theorem madeT_parts (secret : List UInt8) (s : Sess) : madeT secret s = Lib.decDigits s.id.toNat ++ 46 :: (hexB s.user ++ 46 :: (Lib.decDigits s.untl.toNat ++ 46 :: hexB (sealW secret (textT s)))) := by
  simp [madeT, textT]
/-- a token is one session's alone, whatever the secrets -/
theorem madeT_inj {k1 k2 : List UInt8} {s t : Sess} (hs : sessB s) (ht : sessB t) (h : madeT k1 s = madeT k2 t) : s = t := by
  rw [madeT_parts, madeT_parts] at h
  obtain ⟨h1, h⟩ := point_inj (dec_nop _) (dec_nop _) h
  obtain ⟨h2, h⟩ := point_inj (hex_nop _) (hex_nop _) h
  obtain ⟨h3, -⟩ := point_inj (dec_nop _) (dec_nop _) h
  have e1 := dec_inj h1
  have e2 := hexB_inj h2
  have e3 := dec_inj h3
  obtain ⟨a, u, b⟩ := s
  obtain ⟨c, v, d⟩ := t
  simp only [sessB] at *
  congr 1 <;> omega

instance (s : Sess) : Decidable (sessB s) := by unfold sessB; infer_instance
def zeroS : Sess := ⟨0, [], 0⟩
/-- how a token is made -/
def tokenT (secret : List UInt8) (s : Sess) : List UInt8 × Int := if ¬ (0 < secret.length ∧ secret.length ≤ 64) then ([], 3) else if sessB s then (madeT secret s, 0) else ([], 8)
/-- how a text is read as a token -/
def ReadIs (secret token : List UInt8) (clock : Int) (s : Sess) (e : Int) : Prop :=
  if ¬ (0 < secret.length ∧ secret.length ≤ 64) then s = zeroS ∧ e = 3
  else if clock < 0 ∨ 1099511627776 < clock then s = zeroS ∧ e = 2
  else (s = zeroS ∧ e = 211 ∧ ∀ t, sessB t → madeT secret t ≠ token) ∨
    ∃ t, sessB t ∧ madeT secret t = token ∧ ((t.untl < clock ∧ s = zeroS ∧ e = 212) ∨ (clock ≤ t.untl ∧ s = t ∧ e = 0))
theorem ReadIs.unique {k tk : List UInt8} {c e f : Int} {s t : Sess} (h1 : ReadIs k tk c s e) (h2 : ReadIs k tk c t f) : s = t ∧ e = f := by
  unfold ReadIs at h1 h2
  split at h1
  · rename_i hk
    rw [if_pos hk] at h2
    exact ⟨h1.1.trans h2.1.symm, h1.2.trans h2.2.symm⟩
  · rename_i hk
    rw [if_neg hk] at h2
    split at h1
    · rename_i hc
      rw [if_pos hc] at h2
      exact ⟨h1.1.trans h2.1.symm, h1.2.trans h2.2.symm⟩
    · rename_i hc
      rw [if_neg hc] at h2
      rcases h1 with ⟨a1, a2, a3⟩ | ⟨x, x1, x2, x3⟩
      · rcases h2 with ⟨b1, b2, -⟩ | ⟨y, y1, y2, -⟩
        · exact ⟨a1.trans b1.symm, a2.trans b2.symm⟩
        · exact absurd y2 (a3 y y1)
      · rcases h2 with ⟨-, -, b3⟩ | ⟨y, y1, y2, y3⟩
        · exact absurd x2 (b3 x x1)
        · obtain rfl : x = y := madeT_inj x1 y1 (x2.trans y2.symm)
          rcases x3 with ⟨p1, p2, p3⟩ | ⟨p1, p2, p3⟩ <;> rcases y3 with ⟨q1, q2, q3⟩ | ⟨q1, q2, q3⟩
          · exact ⟨p2.trans q2.symm, p3.trans q3.symm⟩
          · omega
          · omega
          · exact ⟨p2.trans q2.symm, p3.trans q3.symm⟩
/-- what was made is read back, as long as it holds -/
theorem back {k : List UInt8} {s a : Sess} {c f : Int} (ht : (tokenT k s).2 = 0) (hc : 0 ≤ c) (hc2 : c ≤ 1099511627776) (h : ReadIs k (tokenT k s).1 c a f) :
    if s.untl < c then f = 212 ∧ a = zeroS else f = 0 ∧ a = s := by
  unfold tokenT at ht h
  split at ht
  · cases ht
  · rename_i hk
    rw [if_neg hk] at h
    split at ht
    · rename_i hs
      rw [if_pos hs] at h
      unfold ReadIs at h
      rw [if_neg hk, if_neg (by omega)] at h
      rcases h with ⟨-, -, h3⟩ | ⟨t, t1, t2, t3⟩
      · exact absurd rfl (h3 s hs)
      · obtain rfl : t = s := madeT_inj t1 hs t2
        rcases t3 with ⟨p1, p2, p3⟩ | ⟨p1, p2, p3⟩
        · rw [if_pos p1]; exact ⟨p3, p2⟩
        · rw [if_neg (by omega)]; exact ⟨p3, p2⟩
    · cases ht
/-- no other text is read -/
theorem only {k tk : List UInt8} {s : Sess} {c e : Int} (h : ReadIs k tk c s e) : (e ≠ 0 → s = zeroS) ∧ (e = 0 → tokenT k s = (tk, 0) ∧ c ≤ s.untl ∧ 0 ≤ c) := by
  unfold ReadIs at h
  split at h
  · exact ⟨fun _ => h.1, fun h0 => by omega⟩
  · rename_i hk
    split at h
    · exact ⟨fun _ => h.1, fun h0 => by omega⟩
    · rename_i hc
      rcases h with ⟨h1, h2, -⟩ | ⟨t, t1, t2, ⟨p1, p2, p3⟩ | ⟨p1, p2, p3⟩⟩
      · exact ⟨fun _ => h1, fun h0 => by omega⟩
      · exact ⟨fun _ => p2, fun h0 => by omega⟩
      · subst p2
        refine ⟨fun h0 => absurd p3 h0, fun _ => ⟨?_, p1, by omega⟩⟩
        unfold tokenT
        rw [if_neg hk, if_pos t1, t2]
end Go.Proofs.YtinijohmdljieaaGreatDoor

namespace Go.Proofs.YtinijohmdljieaaGreatDoor
open Go.RowKit
theorem hv_hx_eq (n : Nat) (h : n < 16) : hv (hx n) = n := by
  have : ∀ n : Fin 16, hv (hx n.val) = (n.val : Int) := by decide +kernel
  exact this ⟨n, h⟩
theorem hexB_cons (z : UInt8) (t : List UInt8) : hexB (z :: t) = hx (z.toNat / 16) :: hx (z.toNat % 16) :: hexB t := by simp [hexB]
theorem hexB_getD : ∀ (bs : List UInt8) (j : Nat) (h : j < bs.length), (hexB bs).getD (2 * j) 0 = hx (bs[j].toNat / 16) ∧ (hexB bs).getD (2 * j + 1) 0 = hx (bs[j].toNat % 16)
  | b :: r, 0, _ => by rw [hexB_cons]; exact ⟨rfl, rfl⟩
  | b :: r, j + 1, h => by
    rw [hexB_cons, show 2 * (j + 1) = 2 * j + 1 + 1 by omega]
    simpa using hexB_getD r j (by simpa using h)
theorem unhex_hex (bs : List UInt8) : unhex (hexB bs) = some bs := by
  have h := unhex_hexB bs
  unfold unhex at h ⊢
  split
  · congr 1
    apply List.ext_getElem
    · rw [uRow_len, hexB_len]; omega
    · intro j h1 h2
      rw [uRow_get _ _ _ (by rw [hexB_len]; omega), uAt, if_pos (by rw [hexB_len]; omega), (hexB_getD bs j h2).1, (hexB_getD bs j h2).2, hv_hx_eq _ (by have := bs[j].toNat_lt; omega), hv_hx_eq _ (by omega)]
      have hb := bs[j].toNat_lt
      apply UInt8.toNat_inj.1
      have := b8_toNat (16 * ((bs[j].toNat / 16 : Nat) : Int) + ((bs[j].toNat % 16 : Nat) : Int)) (by omega) (by omega)
      omega
  · rename_i hn
    rw [if_neg hn] at h
    cases h
end Go.Proofs.YtinijohmdljieaaGreatDoor

namespace Go.Proofs.YtinijohmdljieaaGreatDoor
open Go.RowKit

abbrev dot : ByteArray := ⟨#[46]⟩
theorem index_point : ∀ (a r : List UInt8), 46 ∉ a → Lib.index (a ++ 46 :: r) [46] = (a.length : Int)
  | [], r, _ => by simp [Lib.index, List.isPrefixOf]
  | x :: a, r, h => by
    have h1 : x ≠ 46 := fun e => h (e ▸ List.mem_cons_self ..)
    have h2 := index_point a r (fun hm => h (List.mem_cons_of_mem _ hm))
    rw [List.cons_append, Lib.index, if_neg (by simp [List.isPrefixOf, Ne.symm h1]), h2, if_neg (by simp <;> omega)]
    simp
theorem splitK_point (a r : List UInt8) (k : Nat) (h : 46 ∉ a) : Lib.splitK [46] 0 (k + 1) (a ++ 46 :: r) = a :: Lib.splitK [46] 0 k r := by
  rw [Lib.splitK, index_point a r h, if_neg (by simp <;> omega)]
  simp
theorem count_nop {l : List UInt8} (h : 46 ∉ l) : l.count 46 = 0 := List.count_eq_zero.2 h
theorem split_four {tk : ByteArray} {a b c d : List UInt8} (h : a ++ 46 :: (b ++ 46 :: (c ++ 46 :: d)) = tk.data.toList) (ha : 46 ∉ a) (hb : 46 ∉ b) (hc : 46 ∉ c) (hd : 46 ∉ d) :
    Lib.countB tk dot = 3 ∧ (Lib.splitB dot 0 (Lib.countB tk dot) tk).map (·.data.toList) = [a, b, c, d] := by
  have h3 : Lib.countB tk dot = 3 := by
    show Lib.count tk.data.toList [46] = 3
    rw [Lib.count_one, ← h]
    simp only [List.count_append, List.count_cons_self, count_nop ha, count_nop hb, count_nop hc, count_nop hd]
  refine ⟨h3, ?_⟩
  rw [h3, Lib.splitB_data, ← h]
  show Lib.splitK [46] 0 3 _ = _
  rw [splitK_point _ _ _ ha, splitK_point _ _ _ hb, splitK_point _ _ _ hc]
  rfl
theorem splitB_le : ∀ (k : Nat) (s : ByteArray), ∀ x ∈ Lib.splitB dot 0 k s, x.size ≤ s.size
  | 0, s, x, hx => by
    rw [Lib.splitB_zero] at hx
    simp at hx; subst hx; exact Nat.le_refl _
  | k + 1, s, x, hx => by
    unfold Lib.splitB at hx
    split at hx
    · simp at hx; subst hx; exact Nat.le_refl _
    · rcases List.mem_cons.1 hx with rfl | h
      · rw [ByteArray.size_extract]; omega
      · have := splitB_le k _ x h
        rw [ByteArray.size_extract] at this
        omega
/-- a token that was made, cut and read -/
theorem read_made {k : List UInt8} {tk : ByteArray} {t : Sess} (ht : sessB t) (hm : madeT k t = tk.data.toList) :
    Lib.countB tk dot = 3 ∧ ∀ l0 l1 l2 l3, Lib.splitB dot 0 (Lib.countB tk dot) tk = [l0, l1, l2, l3] → Lib.atoiAll l0.data.toList = .ok t.id ∧ Lib.atoiAll l2.data.toList = .ok t.untl ∧ unhex l1.data.toList = some t.user := by
  rw [madeT_parts] at hm
  obtain ⟨h1, h2⟩ := split_four hm (dec_nop _) (hex_nop _) (dec_nop _) (hex_nop _)
  refine ⟨h1, fun l0 l1 l2 l3 hl => ?_⟩
  rw [hl] at h2
  simp only [List.map_cons, List.map_nil, List.cons.injEq, and_true] at h2
  obtain ⟨e0, e1, e2, -⟩ := h2
  obtain ⟨q1, q2, q3, q4, q5⟩ := ht
  rw [e0, e1, e2]
  refine ⟨?_, ?_, unhex_hex _⟩
  · rw [atoi_dec _ (by omega)]; congr 1; omega
  · rw [atoi_dec _ (by omega)]; congr 1; omega
theorem named_len {u : List UInt8} (h : named u = true) : u.length ≤ 32 := by
  unfold named at h
  simp at h
  omega
theorem madeT_len {k : List UInt8} {t : Sess} (ht : sessB t) : (madeT k t).length ≤ 200 := by
  obtain ⟨q1, q2, q3, q4, q5⟩ := ht
  have h1 : Lib.nDigits t.id.toNat ≤ 13 := nd_le 12 _ (by omega)
  have h2 : Lib.nDigits t.untl.toNat ≤ 13 := nd_le 12 _ (by omega)
  have h3 := named_len q3
  rw [madeT_parts]
  simp only [List.length_append, List.length_cons, Lib.decDigits_length, hexB_len, sealW_len]
  omega
end Go.Proofs.YtinijohmdljieaaGreatDoor
