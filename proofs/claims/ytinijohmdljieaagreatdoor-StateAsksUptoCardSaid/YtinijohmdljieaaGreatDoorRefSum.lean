/- docketref14: longer, Sum. -/
import Derived.Test.YtinijohmdljieaaGreatDoorRefRound
import Derived.Test.YtinijohmdljieaaGreatDoorH03
namespace Go.Proofs.YtinijohmdljieaaGreatDoor
open Go.RowKit

/-- bytes that the call itself collects -/
def Gr (w wr : World) (va : Option Addr) (vc n : Nat) (xs : List UInt8) : Prop := n = xs.length ∧ OwnB wr w.heap.size va vc xs ∧ Below w.heap.size w wr
theorem Gr.nil (w : World) : Gr w w none 0 0 [] := ⟨rfl, OwnB.nil _ _, Below.refl _ _⟩
theorem Gr.below {w wr w' : World} {va : Option Addr} {vc n : Nat} {xs : List UInt8} (h : Gr w wr va vc n xs) (hb : Below wr.heap.size wr w') : Gr w w' va vc n xs := ⟨h.1, h.2.1.below hb (Nat.le_refl _), h.2.2.trans (hb.mono h.2.2.size)⟩
theorem Gr.bytes {w wr : World} {va : Option Addr} {vc n : Nat} {xs : List UInt8} (h : Gr w wr va vc n xs) : Bytes wr.heap.size wr (.slice va n vc) xs := h.2.1.bytes' h.1.symm (Nat.le_refl _)
theorem Gr.push {w wr : World} {va : Option Addr} {vc n : Nat} {xs : List UInt8} (h : Gr w wr va vc n xs) (b : UInt8) (u : Value) (hu : u = bv b) (hn : n + 1 ≤ 100000000) :
    ∃ va' vc' w', (Builtin.append_ #[152, 152] 152 #[.slice va n vc, .slice (some ⟨wr.heap.size, 0, none⟩) 1 1]).run Tryz.prog (wr.alloc (.cells #[u] 5)) = .ok (.slice va' (n + 1) vc') w' ∧ Gr w w' va' vc' (n + 1) (xs ++ [b]) := by
  obtain ⟨rfl, hO, hB⟩ := h
  have hz := hB.size
  obtain ⟨va', vc', w', h1, h2, h3⟩ := hO.push hz b u hu hn
  exact ⟨va', vc', w', h1, by simp, h2, (hO.alloc (.cells #[u] 5)).belowG (hB.alloc hz _) (Nat.le_refl _) (by simp; omega) h3⟩
theorem Gr.app {w wr : World} {va a : Option Addr} {vc n c B : Nat} {xs ys : List UInt8} (h : Gr w wr va vc n xs) (hs : Bytes B wr (.slice a ys.length c) ys) (hn : n + ys.length ≤ 100000000) :
    ∃ va' vc' w', (Builtin.append_ #[152, 152] 152 #[.slice va n vc, .slice a ys.length c]).run Tryz.prog wr = .ok (.slice va' (n + ys.length) vc') w' ∧ Gr w w' va' vc' (n + ys.length) (xs ++ ys) := by
  obtain ⟨rfl, hO, hB⟩ := h
  obtain ⟨va', vc', w', h1, h2, h3⟩ := hO.app hB.size hs hn
  exact ⟨va', vc', w', h1, by simp, h2, hO.belowG hB (Nat.le_refl _) hB.size h3⟩

set_option maxHeartbeats 4000000 in
set_option maxRecDepth 100000 in
theorem longer_walk (v : Value) (bs : List UInt8) (w : World) (h : Bytes w.heap.size w v bs) (hl : bs.length ≤ 1000000) :
    Calls Tryz.prog 196 #[v] w fun e w' => ∃ va vc n, e = .returned (.slice va n vc) ∧ Gr w w' va vc n (padded bs) := by
  obtain ⟨a, c, b, off, rfl, -, -, -⟩ := h.cells
  obtain ⟨va1, vc1, w1, ap1, hg1⟩ := (Gr.nil w).app h (by omega)
  simp only [Nat.zero_add, List.nil_append] at ap1 hg1
  obtain ⟨va2, vc2, w2, ap2, hg2⟩ := hg1.push 0x80 (.int .u8 128) rfl (by omega)
  have HA1 := Lib.hid ap1; have HA2 := Lib.hid ap2; have HG2 := Lib.hid hg2
  clear h ap1 hg1 ap2 hg2
  have tok1 : True := trivial
  go_enter Tryz.func196, Tryz.ntmps196
  go_wp2_with (first | (have _t := tok1; at_builtin; refine wpList_append_run (by rfl) (.tmp 6) (.tmp 7) 152 (by rfl) (by rfl) (by rfl) HA1.out ?_; clear tok1 _t; have tok2 : True := trivial) | (have _t := tok2; at_builtin; refine wpList_append_run (by rfl) (.tmp 9) (.tmp 10) 152 (by rfl) (by rfl) (by rfl) HA2.out ?_; clear tok2 _t))
  clear HA1 HA2
  go_loopw [3] (fun t wr => ∃ (z : Nat) (va : Option Addr) (vc n : Nat), z ≤ zerosN bs.length ∧ t = .slice va n vc ∧ Hid (Gr w wr va vc n (bs ++ [0x80] ++ List.replicate z 0))) (fun t _ => zerosN bs.length + bs.length + 1 - lenV t)
  case atStart => exact ⟨0, va2, vc2, bs.length + 1, by omega, rfl, by rw [List.replicate_zero, List.append_nil]; exact HG2⟩
  case round =>
    clear HG2
    obtain ⟨z, va, vc, n, hz, rfl, hM⟩ := hrel
    have hnz : n = bs.length + 1 + z := by
      have := hM.out.1
      simp at this
      omega
    have hzs := zerosN_spec bs.length z hz
    rw [← hnz] at hzs
    have hn1 : bs.length + 1 + z ≤ n := by omega
    have hn2 : n ≤ bs.length + 1 + z := by omega
    have hzl : zerosN bs.length < 64 := by unfold zerosN; omega
    have HNZ := Lib.hid hnz
    clear hnz
    by_cases hlt : z < zerosN bs.length
    · have hT : ((n : Int) % 64 != 56) = true := by
        simp only [bne_iff_ne, ne_eq]
        omega
      obtain ⟨va', vc', w6, hap, hm6⟩ := hM.out.push 0 (.int .u8 0) rfl (by omega)
      rw [List.append_assoc, ← List.replicate_succ'] at hm6
      have HAP := Lib.hid hap; have HM6 := Lib.hid hm6
      clear hap hm6 hM hzs
      go_wp2_with (at_builtin; refine wpList_append_run (by rfl) (.tmp 16) (.tmp 17) 152 (by rfl) (by rfl) (by rfl) HAP.out ?_)
      go_roundw
      case rel => exact ⟨z + 1, va', vc', n + 1, by omega, rfl, HM6⟩
      case measure => simp [lenV]; omega
    · obtain rfl : z = zerosN bs.length := by omega
      have hT : ((n : Int) % 64 != 56) = false := by
        simp only [bne_eq_false_iff_eq]
        omega
      clear hzs
      go_wp2
      clear hT
      go_loopw [3, 5] (fun t i wr => ∃ (k : Nat) (va : Option Addr) (vc n : Nat), k ≤ 8 ∧ t = .slice va n vc ∧ i = .int .i64 (7 - (k : Int)) ∧ Hid (Gr w wr va vc n (bs ++ [0x80] ++ List.replicate (zerosN bs.length) 0 ++ (lenBytes bs.length).take k))) (fun _ i _ => (intOf i + 1).toNat)
      case atStart => exact ⟨0, va, vc, n, by omega, rfl, rfl, by rw [List.take_zero, List.append_nil]; exact hM⟩
      case round =>
        clear hn1 hn2 HNZ hM
        obtain ⟨k, va, vc, n, hk, rfl, rfl, hM⟩ := hrel
        have hnn := hM.out.1
        simp [lenBytes_len] at hnn
        have hn1 : n ≤ bs.length + 80 := by omega
        clear hnn
        by_cases hlt : k < 8
        · have hi : (0 : Int) ≤ 7 - (k : Int) := by omega
          have hi2 : (7 - (k : Int)) ≤ 7 := by omega
          have hex : (8 * (7 - (k : Int))).toNat = 56 - 8 * k := by omega
          obtain ⟨va', vc', w6, hap, hm6⟩ := hM.out.push (b8 ((bs.length : Int) * 8 / 2 ^ (56 - 8 * k))) (.int .u8 ((bs.length : Int) * 8 / 2 ^ (56 - 8 * k) % 256)) (bv_b8' _) (by omega)
          rw [List.append_assoc, ← lenBytes_snoc _ _ hlt] at hm6
          have HAP := Lib.hid hap; have HM6 := Lib.hid hm6
          clear hap hm6 hM
          go_wp2_with (at_builtin; refine wpList_append_run (by rfl) (.tmp 27) (.tmp 34) 152 (by rfl) (by rfl) (by rfl) HAP.out ?_)
          go_roundw
          case rel => exact ⟨k + 1, va', vc', n + 1, by omega, rfl, by congr 1; omega, HM6⟩
          case measure => simp [intOf]; omega
        · have hk8 : 8 ≤ k := by omega
          have hi : 7 - (k : Int) < 0 := by omega
          have HP : Hid (Gr w wr va vc n (padded bs)) := by
            have h1 := hM.out
            rw [List.take_of_length_le (by rw [lenBytes_len]; omega)] at h1
            exact h1
          clear hM
          go_wp2
          go_ret
          exact ⟨va, vc, n, rfl, HP.out⟩
end Go.Proofs.YtinijohmdljieaaGreatDoor
