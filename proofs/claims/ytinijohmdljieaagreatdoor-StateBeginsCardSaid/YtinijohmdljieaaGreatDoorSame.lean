/- hash.Same; a password's digest, plain. -/
import Derived.Test.YtinijohmdljieaaGreatDoorSealed
import Derived.Test.YtinijohmdljieaaGreatDoorHex
import Derived.Lib.ConvBytes
namespace Go.Proofs.YtinijohmdljieaaGreatDoor
open Go.RowKit

theorem wrap_u8' (z : Int) : IntKind.u8.wrap z = z % 256 := wrap_u8 z
theorem bits_or_u8 (a b : Nat) (ha : a < 256) (hb : b < 256) : bits .or .u8 (a : Int) (b : Int) = ((a ||| b : Nat) : Int) := by
  have hx : a ||| b < 2 ^ 8 := Nat.or_lt_two_pow (by omega) (by omega)
  have h1 : (BitVec.ofInt 8 (a : Int)).toNat = a := by
    rw [BitVec.ofInt_natCast, BitVec.toNat_ofNat]; exact Nat.mod_eq_of_lt (by omega)
  have h2 : (BitVec.ofInt 8 (b : Int)).toNat = b := by
    rw [BitVec.ofInt_natCast, BitVec.toNat_ofNat]; exact Nat.mod_eq_of_lt (by omega)
  show IntKind.u8.wrap ((BitVec.ofInt 8 (a : Int) ||| BitVec.ofInt 8 (b : Int)).toNat : Int) = _
  rw [BitVec.toNat_or, h1, h2, wrap_u8]
  omega
theorem bits_xor_u8 (a b : Nat) (ha : a < 256) (hb : b < 256) : bits .xor .u8 (a : Int) (b : Int) = ((a ^^^ b : Nat) : Int) := by
  have hx : a ^^^ b < 2 ^ 8 := Nat.xor_lt_two_pow (by omega) (by omega)
  have h1 : (BitVec.ofInt 8 (a : Int)).toNat = a := by
    rw [BitVec.ofInt_natCast, BitVec.toNat_ofNat]; exact Nat.mod_eq_of_lt (by omega)
  have h2 : (BitVec.ofInt 8 (b : Int)).toNat = b := by
    rw [BitVec.ofInt_natCast, BitVec.toNat_ofNat]; exact Nat.mod_eq_of_lt (by omega)
  show IntKind.u8.wrap ((BitVec.ofInt 8 (a : Int) ^^^ BitVec.ofInt 8 (b : Int)).toNat : Int) = _
  rw [BitVec.toNat_xor, h1, h2, wrap_u8]
  omega
def SameSt (n : Nat) (xs ys : List UInt8) (k : Nat) : Prop := n < 256 ∧ (n = 0 ↔ xs.take k = ys.take k)
theorem xor_zero {a b : Nat} : a ^^^ b = 0 ↔ a = b := by
  constructor
  · intro h
    have := congrArg (· ^^^ b) h
    simpa [Nat.xor_assoc] using this
  · rintro rfl; simp
theorem or_zero {a b : Nat} : a ||| b = 0 ↔ a = 0 ∧ b = 0 := by
  constructor
  · intro h
    have h1 : a ≤ a ||| b := Nat.left_le_or
    have h2 : b ≤ a ||| b := Nat.right_le_or
    omega
  · rintro ⟨rfl, rfl⟩; rfl
theorem SameSt.next {n : Nat} {xs ys : List UInt8} {k : Nat} (h : SameSt n xs ys k) (hx : k < xs.length) (hy : k < ys.length) : SameSt (n ||| (xs[k].toNat ^^^ ys[k].toNat)) xs ys (k + 1) := by
  have h1 := xs[k].toNat_lt
  have h2 := ys[k].toNat_lt
  refine ⟨Nat.or_lt_two_pow (n := 8) h.1 (Nat.xor_lt_two_pow (n := 8) h1 h2), ?_⟩
  rw [List.take_succ_eq_append_getElem hx, List.take_succ_eq_append_getElem hy, or_zero, xor_zero, h.2]
  constructor
  · rintro ⟨h3, h4⟩
    rw [h3, UInt8.toNat_inj.1 h4]
  · intro h3
    have := List.append_inj h3 (by simp; omega)
    exact ⟨this.1, by simpa using congrArg UInt8.toNat (List.singleton_inj.1 this.2)⟩

set_option maxHeartbeats 2000000 in
set_option maxRecDepth 100000 in
theorem Same_walk (va vb : Value) (xs ys : List UInt8) (B : Nat) (w : World) (h : Bytes B w va xs) (h2 : Bytes B w vb ys) (hl : xs.length ≤ 1000000) (hl2 : ys.length ≤ 1000000) :
    Calls Tryz.prog 80 #[va, vb] w fun e w' => e = .returned (.bool (decide (xs = ys))) ∧ ∃ q, w' = w.drewN q := by
  obtain ⟨a, c, b, off, rfl, -, ha, hc⟩ := h.cells
  obtain ⟨a', c', b', off', rfl, -, ha', hc'⟩ := h2.cells
  have HA := Lib.hid ha; have HC := Lib.hid hc; have HA' := Lib.hid ha'; have HC' := Lib.hid hc'
  clear h h2 ha hc ha' hc'
  obtain ⟨r, hr⟩ : ∃ r, decide (xs = ys) = r := ⟨_, rfl⟩
  rw [hr]
  have HR := Lib.hid hr
  clear hr
  by_cases hn : xs.length = ys.length
  · have hd : ((xs.length : Int) != (ys.length : Int)) = false := by simp [hn]
    have HN := Lib.hid hn
    have hle : xs.length ≤ ys.length := by omega
    clear hn
    go_enter Tryz.func80, Tryz.ntmps80
    go_wp2
    go_loopw [5, 14] (fun t i wr => ∃ k n q : Nat, k ≤ xs.length ∧ i = .int .i64 k ∧ t = .int .u8 n ∧ wr = w.drewN q ∧ Hid (SameSt n xs ys k)) (fun _ i _ => xs.length - (intOf i).toNat)
    case atStart => exact ⟨0, 0, 0, by omega, rfl, rfl, rfl, ⟨by omega, by simp⟩⟩
    case round =>
      obtain ⟨k, n, q, hk, rfl, rfl, rfl, hS⟩ := hrel
      by_cases hlt : k < xs.length
      · obtain ⟨rfl, -⟩ := HA.out (by omega)
        obtain ⟨rfl, -⟩ := HA'.out (by omega)
        have hlt' : k < ys.length := by omega
        have c0 := HC.out k hlt
        have c1 := HC'.out k hlt'
        have HS := Lib.hid (hS.out.next hlt hlt')
        have hn := hS.out.1
        have hx := xs[k].toNat_lt
        have hy := ys[k].toNat_lt
        obtain ⟨x, ex⟩ : ∃ x, xs[k].toNat = x := ⟨_, rfl⟩
        obtain ⟨y, ey⟩ : ∃ x, ys[k].toNat = x := ⟨_, rfl⟩
        have hz := Nat.xor_lt_two_pow (n := 8) (x := x) (y := y) (by omega) (by omega)
        have d0 : w.cell? ⟨b, off + k, none⟩ = some (.int .u8 x) := by rw [c0, bv, ex]
        have d1 : w.cell? ⟨b', off' + k, none⟩ = some (.int .u8 y) := by rw [c1, bv, ey]
        have e1 := bits_xor_u8 x y (by omega) (by omega)
        have e2 := bits_or_u8 n (x ^^^ y) (by omega) (by omega)
        rw [ex, ey] at HS
        have i1 : (0 : Int) ≤ (k : Int) := by omega
        have i2 : (k : Int) < (xs.length : Int) := by omega
        have i3 : (k : Int) < (ys.length : Int) := by omega
        clear c0 c1 ex ey hx hy hn hz hS
        go_wp2
        go_quiet (fail)
        go_wp2
        go_roundw
        case rel => exact ⟨k + 1, _, _, by omega, by go_num, rfl, rfl, HS⟩
        case measure => simp [intOf]; omega
      · obtain rfl : k = xs.length := by omega
        have HF : Hid (n = 0 ↔ xs = ys) := by
          have := hS.out.2
          rw [List.take_length, HN.out, List.take_length] at this
          exact this
        clear hS
        go_wp2
        go_ret
        exact ⟨ret_bool (by rw [← HR.out, Bool.eq_iff_iff]; simp [← HF.out]), _, rfl⟩
  · have hd : ((xs.length : Int) != (ys.length : Int)) = true := by simp; omega
    have hf : xs ≠ ys := fun e => hn (by rw [e])
    have HR2 : Hid (r = false) := by show _ = _; rw [← HR.out]; simp [hf]
    clear hn hf
    go_enter Tryz.func80, Tryz.ntmps80
    go_wp2
    go_ret
    exact ⟨ret_bool HR2.out.symm, 0, rfl⟩

/-- '[]byte(s)' -/
theorem bytesOf (w : World) (s : ByteArray) : ∃ va c w', (convert 9 152 (.string s)).run Tryz.prog w = .ok (.slice va s.size c) w' ∧ Bytes (w.heap.size + 1) w' (.slice va s.size c) s.data.toList ∧ Below w.heap.size w w' ∧ w'.heap.size = w.heap.size + 1 := by
  refine ⟨_, _, _, Lib.run_convert_string_bytes w _ _ 5 s Tryz.underlying9 Tryz.underlying152 Tryz.underlying5, ?_, ?_, Lib.bytesWorld_size _ _ _⟩
  · refine Bytes.mk' (b := w.heap.size) (off := 0) rfl ?_ (fun _ => ⟨rfl, by omega⟩) fun j hj => ?_
    · exact grownCap_ge _ _ _ _
    · rw [Nat.zero_add, Lib.bytesWorld_cell _ _ _ _ hj]
      simp [List.getD_eq_getElem?_getD, List.getElem?_eq_getElem hj]
  · exact ⟨by unfold Lib.bytesWorld World.freeze; split <;> rfl, by unfold Lib.bytesWorld World.freeze; split <;> rfl, by unfold Lib.bytesWorld World.freeze; split <;> rfl, by rw [Lib.bytesWorld_size]; omega, fun k hk => Lib.bytesWorld_at_old _ _ _ _ hk⟩

/-- so many times over -/
def iter (s : List UInt8) : Nat → List UInt8 → List UInt8
  | 0, b => b
  | n + 1, b => sealW s (iter s n b)
theorem iter_len (s : List UInt8) (n : Nat) (b : List UInt8) : (iter s n b).length ≤ b.length + 32 := by
  cases n with
  | zero => simp [iter]
  | succ n => rw [iter, sealW_len]; omega
theorem iter_len1 (s : List UInt8) (n : Nat) (b : List UInt8) (h : 0 < n) : (iter s n b).length = 32 := by
  obtain ⟨m, rfl⟩ : ∃ m, n = m + 1 := ⟨n - 1, by omega⟩
  rw [iter, sealW_len]
def passB (salt pass : List UInt8) (n : Nat) : List UInt8 := hexB (iter salt n pass)
theorem passB_len (salt pass : List UInt8) (n : Nat) (h : 0 < n) : (passB salt pass n).length = 64 := by rw [passB, hexB_len, iter_len1 _ _ _ h]

theorem store32 (w : World) (D : List UInt8) (h : D.length = 32) : (w.alloc (.cells (List.replicate 32 (bv 0)).toArray 214)).there w.heap.size 0 (D.map bv).toArray.size ∧
    Arr ((w.alloc (.cells (List.replicate 32 (bv 0)).toArray 214)).setCells w.heap.size 0 (D.map bv).toArray.toList) w.heap.size 214 (D.map bv) ∧
    Below w.heap.size w ((w.alloc (.cells (List.replicate 32 (bv 0)).toArray 214)).setCells w.heap.size 0 (D.map bv).toArray.toList) ∧
    ((w.alloc (.cells (List.replicate 32 (bv 0)).toArray 214)).setCells w.heap.size 0 (D.map bv).toArray.toList).heap.size = w.heap.size + 1 :=
  ⟨(new32 w).there (by simp [h]), (new32 w).store (by simp [h]), below_cells (Nat.le_refl _) _ _ ((Below.refl _ _).alloc (Nat.le_refl _) _), by rw [size_cells]; simp⟩

end Go.Proofs.YtinijohmdljieaaGreatDoor
