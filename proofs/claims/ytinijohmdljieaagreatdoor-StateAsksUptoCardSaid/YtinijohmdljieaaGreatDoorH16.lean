/- The conversion of bytes to a string. docketref14: Hex, half, Unhex, Pass. docketref20.Named answers whether a text is a name. docketref16.Tens of a number that is not below nought: its digits. -/
import Derived.Test.YtinijohmdljieaaGreatDoorH02
import Derived.Laws.BytesArg
import Derived.Test.YtinijohmdljieaaGreatDoorRefSealed
import Derived.Test.YtinijohmdljieaaGreatDoorH05
import Derived.Test.YtinijohmdljieaaGreatDoorChecked
import Derived.Lib.ItoaNum
import Derived.Test.YtinijohmdljieaaGreatDoorProg
import Derived.Test.YtinijohmdljieaaGreatDoorH01
namespace Go.Proofs.YtinijohmdljieaaGreatDoor
open Go.RowKit

set_option maxRecDepth 100000 in
/-- 'string(b)' -/
theorem stringOf {B n c : Nat} {w : World} {a : Option Addr} {xs : List UInt8} (h : Bytes B w (.slice a n c) xs) : (convert 152 9 (.slice a n c)).run Tryz.prog w = .ok (.string ⟨xs.toArray⟩) w := by
  obtain ⟨a', c', b, off, he, -, ha, hc⟩ := h.cells
  injection he with e1 e2 e3
  subst e1 e2 e3
  by_cases h0 : 0 < xs.length
  · obtain ⟨rfl, -⟩ := ha h0
    exact run_convert_bytes_back w _ _ 5 ⟨b, off, none⟩ c xs Tryz.underlying152 Tryz.underlying5 Tryz.underlying9 (fun j hj => by rw [Addr.add_lit]; exact hc j hj)
  · have : xs = [] := List.eq_nil_of_length_eq_zero (by omega)
    subst this
    rw [run_convert_bytes_string w _ _ 5 a _ c Tryz.underlying152 Tryz.underlying5 Tryz.underlying9]
    cases a with
    | none => rfl
    | some a => exact run_convert_bytes_back w 152 9 5 a c [] Tryz.underlying152 Tryz.underlying5 Tryz.underlying9 (by simp) ▸ (run_convert_bytes_string w _ _ 5 (some a) _ c Tryz.underlying152 Tryz.underlying5 Tryz.underlying9).symm
end Go.Proofs.YtinijohmdljieaaGreatDoor

namespace Go.Proofs.YtinijohmdljieaaGreatDoor
open Go.RowKit

theorem digit_run (n : Nat) (h : n < 16) (W : World) : (Instr.index 9 (.string ⟨#[48, 49, 50, 51, 52, 53, 54, 55, 56, 57, 97, 98, 99, 100, 101, 102]⟩) (.int .u8 n)).run Tryz.prog W = .ok (bv (hx n)) W := by
  have h16 : n = 0 ∨ n = 1 ∨ n = 2 ∨ n = 3 ∨ n = 4 ∨ n = 5 ∨ n = 6 ∨ n = 7 ∨ n = 8 ∨ n = 9 ∨ n = 10 ∨ n = 11 ∨ n = 12 ∨ n = 13 ∨ n = 14 ∨ n = 15 := by omega
  rcases h16 with rfl | rfl | rfl | rfl | rfl | rfl | rfl | rfl | rfl | rfl | rfl | rfl | rfl | rfl | rfl | rfl <;> (show _ = _; kernel_rfl)
theorem Gr.drew {w wr : World} {va : Option Addr} {vc n : Nat} {xs : List UInt8} (h : Gr w wr va vc n xs) : Gr w wr.drew va vc n xs := ⟨h.1, h.2.1.drew, h.2.2.drew⟩
theorem Gr.alloc {w wr : World} {va : Option Addr} {vc n : Nat} {xs : List UInt8} (h : Gr w wr va vc n xs) (o : Obj) : Gr w (wr.alloc o) va vc n xs := ⟨h.1, h.2.1.alloc o, h.2.2.alloc h.2.2.size o⟩
/-- two bytes more -/
theorem Gr.push2 {w wr : World} {va : Option Addr} {vc n : Nat} {xs : List UInt8} (h : Gr w wr va vc n xs) (b c : UInt8) (hn : n + 2 ≤ 100000000) :
    ∃ va' vc' w', (Builtin.append_ #[152, 152] 152 #[.slice va n vc, .slice (some ⟨wr.heap.size, 0, none⟩) 2 2]).run Tryz.prog (wr.alloc (.cells #[bv b, bv c] 5)) = .ok (.slice va' (n + 2) vc') w' ∧ Gr w w' va' vc' (n + 2) (xs ++ [b, c]) := by
  refine (h.alloc (.cells #[bv b, bv c] 5)).app (ys := [b, c]) (B := wr.heap.size + 1) (Bytes.mk' (b := wr.heap.size) (off := 0) rfl (Nat.le_refl _) (fun _ => ⟨rfl, by omega⟩) (fun j hj => ?_)) hn
  match j, hj with
  | 0, _ => simp [World.cell?, show (wr.alloc (.cells #[bv b, bv c] 5)).heap = wr.heap.push (.cells #[bv b, bv c] 5) from rfl]
  | 1, _ => simp [World.cell?, show (wr.alloc (.cells #[bv b, bv c] 5)).heap = wr.heap.push (.cells #[bv b, bv c] 5) from rfl]

set_option maxHeartbeats 4000000 in
set_option maxRecDepth 100000 in
theorem refHex_walk (v : Value) (bs : List UInt8) (w : World) (h : Bytes w.heap.size w v bs) (hl : bs.length ≤ 1000000) :
    Calls Tryz.prog 129 #[v] w fun e w' => e = .returned (.string ⟨(hexB bs).toArray⟩) ∧ Below w.heap.size w w' := by
  obtain ⟨a, c, b, off, rfl, -, ha, hc⟩ := h.cells
  have HA := Lib.hid ha; have HC := Lib.hid hc
  clear h ha hc
  go_enter Tryz.func129, Tryz.ntmps129
  go_wp2
  go_loopw [3, 4] (fun t i wr => ∃ (k : Nat) (va : Option Addr) (vc n : Nat), k ≤ bs.length ∧ i = .int .i64 k ∧ t = .slice va n vc ∧ Hid (Gr w wr va vc n (hexB (bs.take k)))) (fun _ i _ => bs.length - (intOf i).toNat)
  case atStart => exact ⟨0, none, 0, 0, by omega, rfl, rfl, Gr.nil w⟩
  case round =>
    obtain ⟨k, va, vc, n, hk, rfl, rfl, hG⟩ := hrel
    by_cases hlt : k < bs.length
    · obtain ⟨rfl, hbl⟩ := HA.out (by omega)
      have c0 := (hG.out.2.2.cell (p := ⟨b, off + k, none⟩) hbl).trans (HC.out k hlt)
      have HS := Lib.hid (hexB_snoc hlt)
      have hnn := hG.out.1
      rw [hexB_len, List.length_take] at hnn
      have hn2 : n + 2 ≤ 2000002 := by omega
      obtain ⟨y, hy⟩ : ∃ z, bs[k] = z := ⟨_, rfl⟩
      rw [hy] at c0 HS
      obtain ⟨m, hm⟩ : ∃ n, y.toNat = n := ⟨_, rfl⟩
      have hm2 : m < 256 := by have := y.toNat_lt; omega
      have c1 : wr.cell? ⟨b, off + k, none⟩ = some (.int .u8 (m : Int)) := by rw [c0, bv, hm]
      have e1 : (m : Int) / 16 = ((m / 16 : Nat) : Int) := by omega
      have e2 : (m : Int) % 16 = ((m % 16 : Nat) : Int) := by omega
      rw [hm] at HS
      have hd1 := digit_run (m / 16) (by omega)
      have hd2 := digit_run (m % 16) (by omega)
      have hb1 : m / 16 < 16 := by omega
      have hb2 : m % 16 < 16 := by omega
      obtain ⟨d1, he1⟩ : ∃ d, m / 16 = d := ⟨_, rfl⟩
      obtain ⟨d2, he2⟩ : ∃ d, m % 16 = d := ⟨_, rfl⟩
      rw [he1, he2] at HS
      rw [he1] at e1 hd1 hb1
      rw [he2] at e2 hd2 hb2
      have e3 : (m : Int).tmod 16 = (d2 : Int) := by rw [Int.tmod_eq_emod_of_nonneg (by omega)]; exact e2
      have w1 : IntKind.u8.wrap (d1 : Int) = (d1 : Int) := by rw [wrap_u8]; omega
      have w2 : IntKind.u8.wrap (d2 : Int) = (d2 : Int) := by rw [wrap_u8]; omega
      have hb3 : (d1 : Int) < 16 := by omega
      have hb4 : (d2 : Int) < 16 := by omega
      have hb5 : (0 : Int) ≤ (d1 : Int) := by omega
      have hb6 : (0 : Int) ≤ (d2 : Int) := by omega
      obtain ⟨va', vc', w5, ap5, hG5⟩ := hG.out.drew.push2 (hx d1) (hx d2) (by omega)
      rw [show hexB (bs.take k) ++ [hx d1, hx d2] = hexB (bs.take (k + 1)) by rw [HS.out]; simp] at hG5
      have c5 : w5.cell? ⟨b, off + k, none⟩ = some (.int .u8 (m : Int)) := by
        rw [hG5.2.2.cell (p := ⟨b, off + k, none⟩) hbl, HC.out k hlt, hy, bv, hm]
      have HAP : Hid ((Builtin.append_ #[152, 152] 152 #[.slice va n vc, .slice (some ⟨wr.heap.size, 0, none⟩) 2 2]).run Tryz.prog ((wr.alloc (.cells #[bv (hx d1), bv (hx d2)] 5)).drew) = .ok (.slice va' (n + 2) vc') w5) := ap5
      have HG5 := Lib.hid hG5
      have i1 : (0 : Int) ≤ (k : Int) := by omega
      have i2 : (k : Int) < (bs.length : Int) := by omega
      have cd : wr.drew.cell? ⟨b, off + k, none⟩ = some (.int .u8 (m : Int)) := c1
      have cda : ∀ o, ((wr.alloc o).drew).cell? ⟨b, off + k, none⟩ = some (.int .u8 (m : Int)) := fun o => by
        show (wr.alloc o).cell? _ = _
        rw [World.cell?_alloc_lt _ _ _ (World.block_lt_of_cell? _ _ c1)]; exact c1
      clear c0 hy hm he1 he2 ap5 hG5 hG hnn HS
      go_wp2
      go_region_held3 (fun w' => w'.cell? ⟨b, off + k, none⟩ = some (.int .u8 (m : Int))) (first | (simp only [cd]; done) | (simp only [cda]; done) | (simp only [c5]; done))
        ((refine step_append_run (by rfl) _ _ _ (by rfl) (by rfl) (by rfl) HAP.out ?_))
      all_goals
        go_wp2
        exact ⟨⟨k + 1, va', vc', n + 2, by omega, by go_num, rfl, HG5⟩, by simp [intOf]; omega⟩
    · have hkl : bs.length ≤ k := by omega
      have HG : Hid (Gr w wr va vc n (hexB bs)) := by
        have h1 := hG.out
        rw [List.take_of_length_le hkl] at h1
        exact h1
      have hst := stringOf HG.out.bytes
      clear hG
      go_wp2
      go_ret
      exact ⟨rfl, HG.out.2.2⟩

theorem hv_cases (n : Nat) (h : n < 256) : hv (UInt8.ofNat n) = if 48 ≤ n ∧ n ≤ 57 then (n : Int) - 48 else if 97 ≤ n ∧ n ≤ 102 then (n : Int) - 97 + 10 else -1 := by
  have : ∀ n : Fin 256, hv (UInt8.ofNat n.val) = if 48 ≤ n.val ∧ n.val ≤ 57 then (n.val : Int) - 48 else if 97 ≤ n.val ∧ n.val ≤ 102 then (n.val : Int) - 97 + 10 else -1 := by decide +kernel
  exact this ⟨n, h⟩
theorem refHalf_walk (c : UInt8) (w : World) : Calls Tryz.prog 117 #[.int .u8 (c.toNat : Int)] w fun e w' => e = .returned (.int .i64 (hv c)) ∧ w = w' := by
  obtain ⟨n, hn⟩ : ∃ n, c.toNat = n := ⟨_, rfl⟩
  have hn2 : n < 256 := by have := c.toNat_lt; omega
  have e : hv c = if 48 ≤ n ∧ n ≤ 57 then (n : Int) - 48 else if 97 ≤ n ∧ n ≤ 102 then (n : Int) - 97 + 10 else -1 := by
    rw [← hv_cases n hn2, ← hn]; simp
  rw [e, hn]
  clear e hn
  by_cases h1 : 48 ≤ n ∧ n ≤ 57
  · rw [if_pos h1]
    obtain ⟨h2, h3⟩ := h1
    go_enter Tryz.func117, Tryz.ntmps117
    go_wp2
    go_ret
    exact ⟨rfl, rfl⟩
  · rw [if_neg h1]
    by_cases h2 : 97 ≤ n ∧ n ≤ 102
    · rw [if_pos h2]
      obtain ⟨h3, h4⟩ := h2
      have d1 : ¬ ((n : Int) ≤ 57) := by omega
      clear h1
      go_enter Tryz.func117, Tryz.ntmps117
      go_wp2
      go_ret
      exact ⟨rfl, rfl⟩
    · rw [if_neg h2]
      go_enter Tryz.func117, Tryz.ntmps117
      go_wp2
      all_goals first | (exfalso; omega) | (go_ret; exact ⟨rfl, rfl⟩)

def RefUnhexEnd (r : Option (List UInt8)) (w : World) (e : Ending) (w' : World) : Prop :=
  (r = none ∧ e = .returned (.tuple #[.slice none 0 0, .int .i64 3]) ∨ ∃ b va vc n, r = some b ∧ e = .returned (.tuple #[.slice va n vc, .int .i64 0]) ∧ Gr w w' va vc n b) ∧ Below w.heap.size w w'
set_option maxHeartbeats 4000000 in
set_option maxRecDepth 100000 in
theorem refUnhex_walk (s : ByteArray) (w : World) (hs : s.size ≤ 1000000) :
    Calls Tryz.prog 71 #[.string s] w (RefUnhexEnd (unhex s.data.toList) w) := by
  obtain ⟨r, hr⟩ : ∃ r, unhex s.data.toList = r := ⟨_, rfl⟩
  rw [hr]
  have HR := Lib.hid hr
  clear hr
  by_cases h2 : s.size % 2 = 0
  · have hd : (((s.size : Int) % 2) != 0) = false := by simp; omega
    obtain ⟨m, hm⟩ : ∃ m : Nat, s.size = 2 * m := ⟨s.size / 2, by omega⟩
    have HM := Lib.hid hm
    clear hm
    go_enter Tryz.func71, Tryz.ntmps71
    go_wp2
    go_loopw [4, 5] (fun t i wr => ∃ (k : Nat) (va : Option Addr) (vc n : Nat), k ≤ m ∧ i = .int .i64 (2 * (k : Int)) ∧ t = .slice va n vc ∧ Hid (∀ j, j < 2 * k → 0 ≤ hv (s.data.toList.getD j 0)) ∧ Hid (Gr w wr va vc n ((uRow s.data.toList s.size).take k))) (fun _ i _ => s.size - (intOf i).toNat)
    case atStart => exact ⟨0, none, 0, 0, by omega, rfl, rfl, fun j hj => by omega, Gr.nil w⟩
    case round =>
      obtain ⟨k, va, vc, n, hk, rfl, rfl, hP, hG⟩ := hrel
      by_cases hlt : k < m
      · have hlt1 : 2 * k < s.size := by have := HM.out; omega
        have hlt2 : 2 * k + 1 < s.size := by have := HM.out; omega
        have d1 : 2 * (k : Int) < (s.size : Int) := by omega
        have d2 : 2 * (k : Int) + 1 < (s.size : Int) := by omega
        have d3 : (0 : Int) ≤ 2 * (k : Int) := by omega
        have d4 : (2 * (k : Int)).toNat = 2 * k := by omega
        have d5 : (2 * (k : Int) + 1).toNat = 2 * k + 1 := by omega
        have d6 : IntKind.i64.wrap (2 * (k : Int) + 1) = 2 * (k : Int) + 1 := wrap_i64 (by omega) (by omega)
        have hh1 := refHalf_walk (s[2 * k]'hlt1)
        have hh2 := refHalf_walk (s[2 * k + 1]'hlt2)
        have hu : ∀ j (hj : j < s.size), s.data.toList.getD j 0 = s[j] := fun j hj => by
          rw [List.getD_eq_getElem?_getD, List.getElem?_eq_getElem (show j < s.data.toList.length from hj)]
          simp [ByteArray.getElem_eq_getElem_data]
        have hb1 := hv_bd (s[2 * k]'hlt1)
        have hb2 := hv_bd (s[2 * k + 1]'hlt2)
        obtain ⟨x, hx⟩ : ∃ z, hv (s[2 * k]'hlt1) = z := ⟨_, rfl⟩
        obtain ⟨y, hy⟩ : ∃ z, hv (s[2 * k + 1]'hlt2) = z := ⟨_, rfl⟩
        rw [hx] at hh1 hb1
        rw [hy] at hh2 hb2
        have HX : Hid (hv (s.data.toList.getD (2 * k) 0) = x) := by show _ = _; rw [hu _ (by omega)]; exact hx
        have HY : Hid (hv (s.data.toList.getD (2 * k + 1) 0) = y) := by show _ = _; rw [hu _ (by omega)]; exact hy
        have HH1 := Lib.hid hh1; have HH2 := Lib.hid hh2
        have HBAD : Hid (x < 0 ∨ y < 0 → r = none) := by
          intro hneg
          rw [← HR.out, unhex, if_neg]
          intro h
          have hal := List.all_eq_true.1 h.2
          rcases hneg with hneg | hneg
          · have := hal (s.data.toList.getD (2 * k) 0) (by rw [hu _ (by omega)]; simp [ByteArray.getElem_eq_getElem_data])
            rw [HX.out] at this
            simp at this; omega
          · have := hal (s.data.toList.getD (2 * k + 1) 0) (by rw [hu _ (by omega)]; simp [ByteArray.getElem_eq_getElem_data])
            rw [HY.out] at this
            simp at this; omega
        clear hx hy hh1 hh2 hu
        by_cases hx0 : x < 0
        · have HN : Hid (r = none) := HBAD.out (.inl hx0)
          go_wp2_with fail
          refine (HH1.out _).mono ?_
          rintro e w2 ⟨rfl, rfl⟩
          go_wp2_with fail
          refine (HH2.out _).mono ?_
          rintro e w2 ⟨rfl, rfl⟩
          go_wp2
          go_ret2
          exact ⟨.inl ⟨HN.out, rfl⟩, hG.out.2.2⟩
        · by_cases hy0 : y < 0
          · have HN : Hid (r = none) := HBAD.out (.inr hy0)
            go_wp2_with fail
            refine (HH1.out _).mono ?_
            rintro e w2 ⟨rfl, rfl⟩
            go_wp2_with fail
            refine (HH2.out _).mono ?_
            rintro e w2 ⟨rfl, rfl⟩
            go_wp2
            go_ret2
            exact ⟨.inl ⟨HN.out, rfl⟩, hG.out.2.2⟩
          · have hul := uRow_len s.data.toList s.size
            rw [ba_len] at hul
            have hs2 := HM.out
            have hkl : k < (uRow s.data.toList s.size).length := by rw [hul]; omega
            have hnn := hG.out.1
            rw [List.length_take] at hnn
            have hval : (uRow s.data.toList s.size)[k] = b8 (16 * x + y) := by
              rw [uRow_get _ _ _ (by rw [ba_len]; omega), uAt, if_pos (by omega), HX.out, HY.out]
            have hb8 : Value.int .u8 ((16 * x + y) % 256) = bv (b8 (16 * x + y)) := bv_b8' _
            have hm3 : (16 * x + y) % 256 = 16 * x + y := by omega
            rw [hm3] at hb8
            obtain ⟨va', vc', w5, ap5, hG5⟩ := hG.out.push (b8 (16 * x + y)) (.int .u8 (16 * x + y)) hb8 (by omega)
            rw [← hval, ← List.take_succ_eq_append_getElem hkl] at hG5
            have HP2 : Hid (∀ j, j < 2 * (k + 1) → 0 ≤ hv (s.data.toList.getD j 0)) := by
              intro j hj
              by_cases h : j < 2 * k
              · exact hP.out j h
              · by_cases h3 : j = 2 * k
                · rw [h3, HX.out]; omega
                · rw [show j = 2 * k + 1 by omega, HY.out]; omega
            have HAP := Lib.hid ap5; have HG5 := Lib.hid hG5
            have w8 : IntKind.u8.wrap (16 * x + y) = 16 * x + y := by rw [wrap_u8]; exact hm3
            clear hul hs2 hkl hnn hval hb8 hm3 ap5 hG5 hG hP
            go_wp2_with fail
            refine (HH1.out _).mono ?_
            rintro e w2 ⟨rfl, rfl⟩
            go_wp2_with fail
            refine (HH2.out _).mono ?_
            rintro e w2 ⟨rfl, rfl⟩
            go_wp2_with (at_builtin; refine wpList_append_run (by rfl) (.tmp 33) (.tmp 39) 152 (by rfl) (by rfl) (by rfl) HAP.out ?_)
            go_roundw
            case rel => exact ⟨k + 1, va', vc', n + 1, by omega, by congr 1 <;> omega, rfl, HP2, HG5⟩
            case measure => have := HM.out; simp [intOf]; omega
      · have hkm : m ≤ k := by omega
        have d1 : ¬ (2 * (k : Int) < (s.size : Int)) := by have := HM.out; omega
        have HN : Hid (r = some (uRow s.data.toList s.size)) := by
          show _ = _
          have hs2 := HM.out
          rw [← HR.out, unhex, if_pos]
          · rfl
          · refine ⟨by rw [ba_len]; exact h2, List.all_eq_true.2 fun c hc => ?_⟩
            obtain ⟨j, hj, rfl⟩ := List.getElem_of_mem hc
            have := hP.out j (by rw [ba_len] at hj; omega)
            rw [List.getD_eq_getElem?_getD, List.getElem?_eq_getElem hj] at this
            simpa using this
        have HG : Hid (Gr w wr va vc n (uRow s.data.toList s.size)) := by
          have h1 := hG.out
          have hs2 := HM.out
          rw [List.take_of_length_le (by rw [uRow_len, ba_len]; omega)] at h1
          exact h1
        clear hG hP
        go_wp2
        go_ret2
        exact ⟨.inr ⟨_, va, vc, n, HN.out, rfl, HG.out⟩, HG.out.2.2⟩
  · have hd : (((s.size : Int) % 2) != 0) = true := by simp; omega
    have HN : Hid (r = none) := by
      show _ = _
      rw [← HR.out, unhex, if_neg (fun h => h2 (by rw [← ba_len]; exact h.1))]
    go_enter Tryz.func71, Tryz.ntmps71
    go_wp2
    go_ret2
    exact ⟨.inl ⟨HN.out, rfl⟩, Below.refl _ _⟩
end Go.Proofs.YtinijohmdljieaaGreatDoor

namespace Go.Proofs.YtinijohmdljieaaGreatDoor
open Go.RowKit

set_option maxHeartbeats 1000000 in
theorem refNamed (s : ByteArray) (w : World) (hs : s.size ≤ maxLen) :
    Calls Tryz.prog 69 #[.string s] w fun e w' => e = .returned (.bool (named s.data.toList)) ∧ w = w' := by
  unfold maxLen at hs
  by_cases he : s.toList = []
  · go_enter Tryz.func69, Tryz.ntmps69
    go_wp2
    go_ret
    exact ⟨ret_bool (by rw [Go.ByteArray.toList_eq] at he; simp [named, he]), rfl⟩
  have hz : s.toList.isEmpty = false := by simpa using he
  by_cases hl : 32 < (s.size : Int)
  · go_enter Tryz.func69, Tryz.ntmps69
    go_wp2
    go_ret
    exact ⟨ret_bool (by simp [named]; omega), rfl⟩
  go_enter Tryz.func69, Tryz.ntmps69
  go_wp2
  go_loop [3] (fun i => ∃ k : Nat, k ≤ s.size ∧ i = .int .i64 k ∧ (s.data.toList.take k).all nmB = true) (fun i => s.size - (intOf i).toNat)
  case atStart => exact ⟨0, by omega, rfl, by simp⟩
  case round =>
    obtain ⟨k, hk, rfl, hall⟩ := hrel
    by_cases hlt : k < s.size
    · have Hall := Lib.hid hall; clear hall
      go_wp2
      all_goals first
        | (go_ret; exact ⟨ret_bool (by simp only [named]; rw [all_no hlt (nmB_no (by simp at *; omega))]; simp), rfl⟩)
        | (go_round
           case rel => exact ⟨k + 1, by omega, by go_num, all_snoc hlt Hall.out (nmB_yes (by simp at *; omega))⟩
           case measure => simp [intOf]; omega)
    · go_wp2
      go_ret
      exact ⟨ret_bool (by rw [named, all_end hlt hall, ba_len]; rw [Go.ByteArray.toList_eq] at hz; simp [hz]; omega), rfl⟩
end Go.Proofs.YtinijohmdljieaaGreatDoor

namespace Go.Proofs.YtinijohmdljieaaGreatDoor
open Go.RowKit

theorem tens_step (n : Nat) (h : ¬ n < 10) : Lib.decDigits n = Lib.decDigits (n / 10) ++ Lib.decDigits (n % 10) := by
  rw [Lib.decDigits, dif_neg h, Lib.decDigits_one (i := n % 10) (by omega)]

set_option maxHeartbeats 2000000 in
set_option maxRecDepth 100000 in
theorem Tens_walk : ∀ (k n : Nat) (w : World), n ≤ k → n < 9223372036854775808 →
    Calls Tryz.prog 128 #[.int .i64 (n : Int)] w fun e w' => e = .returned (.string ⟨(Lib.decDigits n).toArray⟩) ∧ w' = w := by
  intro k
  induction k using Nat.strongRecOn with
  | _ k ih =>
    intro n w hnk hn
    have g0 : decide ((n : Int) < 0) = false := decide_eq_false (by omega)
    by_cases h : n < 10
    · have hd : ∀ m : Fin 10, (⟨#[48, 49, 50, 51, 52, 53, 54, 55, 56, 57]⟩ : ByteArray).extract m.val (m.val + 1) = ⟨(Lib.decDigits m.val).toArray⟩ := by decide +kernel
      have hd' := hd ⟨n, h⟩
      have HD := Lib.hid hd'
      have g1 : decide ((n : Int) < 10) = true := decide_eq_true (by omega)
      have i0 : (0 : Int) ≤ (n : Int) := by omega
      have i1 : (n : Int) + 1 ≤ 10 := by omega
      clear hd hd' ih
      go_enter Tryz.func128, Tryz.ntmps128
      go_wp2
      go_ret
      rw [HD.out]
      exact ⟨rfl, rfl⟩
    · have g1 : decide ((n : Int) < 10) = false := decide_eq_false (by omega)
      have c1 := fun W => ih (n / 10) (by omega) (n / 10) W (Nat.le_refl _) (by omega)
      have c2 := fun W => ih (n % 10) (by omega) (n % 10) W (Nat.le_refl _) (by omega)
      have e1 : (n : Int) / 10 = ((n / 10 : Nat) : Int) := by omega
      have e2 : (n : Int) % 10 = ((n % 10 : Nat) : Int) := by omega
      have HT := Lib.hid (tens_step n h)
      have l1 := decLen (n / 10) (by omega)
      have l2 := decLen (n % 10) (by omega)
      have hlen : ¬ 9223372036854775807 < (Lib.decDigits (n / 10)).length + (Lib.decDigits (n % 10)).length := by omega
      clear l1 l2
      generalize n / 10 = q at *
      generalize n % 10 = r at *
      have C1 := Lib.hid c1; have C2 := Lib.hid c2
      clear ih c1 c2
      go_enter Tryz.func128, Tryz.ntmps128
      go_wp2_with fail
      refine (C1.out _).mono ?_
      rintro e w1 ⟨rfl, rfl⟩
      go_wp2_with fail
      refine (C2.out _).mono ?_
      rintro e w2 ⟨rfl, rfl⟩
      go_wp2_with fail
      go_ret
      refine ⟨?_, rfl⟩
      rw [HT.out, ← ba_app]
      rfl
end Go.Proofs.YtinijohmdljieaaGreatDoor
