/- hash.half, hash.Hex; a strings.Builder written byte by byte. hash.Same; a password's digest, plain. -/
import Derived.Test.YtinijohmdljieaaGreatDoorH02
import Derived.Test.YtinijohmdljieaaGreatDoorShelf
import Derived.Lib.Builder
import Derived.Laws.Externs
import Derived.Shelf.RegionOpenPlain
import Derived.Test.YtinijohmdljieaaGreatDoorH03
import Derived.Lib.ConvBytes
namespace Go.Proofs.YtinijohmdljieaaGreatDoor
open Go.RowKit

theorem bsize : (Tryz.prog.info? 244).map (·.size) = some 2 := by kernel_rfl
theorem blies : liesAt Tryz.prog Tryz.prog.depth 244 (2 / Tryz.prog.cellsOf 244) 0 244 1 = true := by kernel_rfl

set_option maxHeartbeats 1000000 in
set_option maxRecDepth 100000 in
theorem copyCheck_fresh (b : Nat) (w : World) (h0 : w.cell? ⟨b, 0, none⟩ = some (.pointer none)) (hsh : w.shape? b = some (244, 2)) (hfz : w.frozen? ⟨b, 0, none⟩ = false) :
    Calls Tryz.prog 187 #[.pointer (some ⟨b, 0, none⟩)] w fun e w' => e = .returned (.tuple #[]) ∧ w' = w.setCell ⟨b, 0, none⟩ (.pointer (some ⟨b, 0, none⟩)) := by
  obtain ⟨j, hj, hjs⟩ := Option.map_eq_some_iff.1 bsize
  go_enter Tryz.func187, Tryz.ntmps187
  go_wp2
  rw [Lib.run_to_unsafe w ⟨b, 0, none⟩ Tryz.underlying242 Tryz.underlying287 hj (by rw [hjs]; decide) hsh (Nat.zero_lt_succ 1)]
  simp only [Result.andThen]
  rw [Oper.upon_value]
  go_wp2
  rw [run_callFunc_extern Tryz.func203 (by kernel_rfl) (by kernel_rfl) (by kernel_rfl) (e := Extern.AbiNoEscape.same) (by kernel_rfl), Lib.run_noEscape]
  simp only [Result.andThen]
  rw [Oper.upon_value]
  go_wp2
  rw [Lib.run_from_unsafe w ⟨b, 0, none⟩ Tryz.underlying287 Tryz.underlying242 hj hsh blies]
  simp only [Result.andThen]
  rw [Oper.upon_value]
  go_wp2
  go_end0
  exact ⟨rfl, rfl⟩
set_option maxHeartbeats 1000000 in
set_option maxRecDepth 100000 in
theorem copyCheck_used (b : Nat) (w : World) (h0 : w.cell? ⟨b, 0, none⟩ = some (.pointer (some ⟨b, 0, none⟩))) :
    Calls Tryz.prog 187 #[.pointer (some ⟨b, 0, none⟩)] w fun e w' => e = .returned (.tuple #[]) ∧ w' = w := by
  obtain ⟨j, hj, _⟩ := Option.map_eq_some_iff.1 bsize
  go_enter Tryz.func187, Tryz.ntmps187
  go_wp2
  rw [Lib.run_neq_ptr_same w _ Tryz.underlying242 hj]
  go_wp2
  go_end0
  exact ⟨rfl, rfl⟩
/-- a builder of the call's own, that holds these bytes -/
abbrev Bld (B b : Nat) (bs : List UInt8) (w : World) : Prop := Lib.IsBuilder 244 5 B b (Lib.byteCells bs) w
theorem copyCheck_walk (B b : Nat) (bs : List UInt8) (w : World) (h : Bld B b bs w) :
    Calls Tryz.prog 187 #[.pointer (some ⟨b, 0, none⟩)] w fun e w' => e = .returned (.tuple #[]) ∧ (Lib.BuilderAt 244 5 B b (.pointer (some ⟨b, 0, none⟩)) (Lib.byteCells bs) w' ∧ Below B w w') := by
  rcases h with h | h
  · refine (copyCheck_fresh b w h.cell0 h.shape h.frozen0).mono ?_
    rintro e w' ⟨rfl, rfl⟩
    exact ⟨rfl, h.used _, (Below.refl B w).setCell (p := ⟨b, 0, none⟩) h.1 _⟩
  · refine (copyCheck_used b w h.cell0).mono ?_
    rintro e w' ⟨rfl, rfl⟩
    exact ⟨rfl, h, Below.refl B _⟩
theorem byteCells_snoc (bs : List UInt8) (c : UInt8) : Lib.byteCells (bs ++ [c]) = Lib.byteCells bs ++ [bv c] := by simp [Lib.byteCells]
theorem byteCells_len (bs : List UInt8) : (Lib.byteCells bs).length = bs.length := by simp [Lib.byteCells]

set_option maxHeartbeats 2000000 in
set_option maxRecDepth 100000 in
theorem WriteByte_walk (B b : Nat) (bs : List UInt8) (c : UInt8) (u : Value) (hu : u = bv c) (w : World) (h : Bld B b bs w) (hlen : bs.length + 1 ≤ 140737488355328) (hBw : B ≤ w.heap.size) :
    Calls Tryz.prog 164 #[.pointer (some ⟨b, 0, none⟩), u] w fun e w' => e = .returned .nilIface ∧ Bld B b (bs ++ [c]) w' ∧ Below B w w' := by
  subst hu
  have hc := copyCheck_walk B b bs w h
  have HC := Lib.hid hc
  clear hc h
  go_enter Tryz.func164, Tryz.ntmps164
  go_wp2_with fail
  refine HC.out.mono ?_
  rintro e w1 ⟨rfl, ⟨hB, v, hbk, hown, hne⟩, hb1⟩
  obtain ⟨va, vc, rfl⟩ : ∃ va vc, v = .slice va bs.length vc := by
    rcases hown.2 with ⟨hv, h0⟩ | ⟨g, cap, cur, hv, _⟩
    · rw [byteCells_len] at h0; exact ⟨none, 0, by rw [hv, h0]⟩
    · rw [byteCells_len] at hv; exact ⟨_, _, hv⟩
  have hO : OwnB w1 B va vc bs := ⟨by rw [byteCells_len] at hown; exact hown⟩
  have hz1 := hb1.size
  obtain ⟨va', vc', w2, hap, hO2, hg2⟩ := Own.app elemU8 152 (hO.alloc (.cells #[bv c] 5)) (by simp; omega) (some ⟨w1.heap.size, 0, none⟩) 1 1 w1.heap.size 0 [bv c] rfl (fun _ => rfl) (by
      intro j u hj
      match j, hj with
      | 0, hj => simp at hj; subst hj; simp [World.cell?, show (w1.alloc (.cells #[bv c] 5)).heap = w1.heap.push (.cells #[bv c] 5) from rfl]) (by intro u hu; simp at hu; subst hu; rfl) (by unfold maxLen; omega) (by omega)
  have hlt : b < w1.heap.size := by
    rcases Nat.lt_or_ge b w1.heap.size with h' | h'
    · exact h'
    · simp [Array.getElem?_eq_none h'] at hbk
  have hb2 : w2.heap[b]? = some (.cells #[.pointer (some ⟨b, 0, none⟩), .slice va bs.length vc] 244 (0, 0)) := by
    rw [hg2.block b (by simp; omega) (fun e => hne (by cases va with | none => cases e | some x => cases e; rfl)), Lib.alloc_old w1 _ b hlt]
    exact hbk
  have c1 : w1.cell? ⟨b, 1, none⟩ = some (.slice va bs.length vc) := by rw [Lib.cell_of_heap hbk]; rfl
  have d1 : w2.cell? ⟨b, 1, none⟩ = some (.slice va bs.length vc) := by rw [Lib.cell_of_heap hb2]; rfl
  have f1 : w2.frozen? ⟨b, 1, none⟩ = false := Lib.frozen_of_heap hb2 1
  have HB2 : Hid (Below B w w2) := (hO.alloc (.cells #[bv c] 5)).belowG (hb1.alloc (by omega) _) (Nat.le_refl _) (by simp; omega) hg2
  have HP : Hid (Lib.BuilderAt 244 5 B b (.pointer (some ⟨b, 0, none⟩)) (Lib.byteCells (bs ++ [c])) (w2.setCell ⟨b, 1, none⟩ (.slice va' (bs.length + 1) vc'))) :=
    Lib.BuilderAt.put hB hb2 (by have := hO2.row; rw [byteCells_len, List.length_append]; rw [byteCells_snoc]; exact this) (by decide)
  have HAP := Lib.hid hap
  clear hap hO hO2 hg2 hown hbk hne hb1 hz1
  go_wp2_with (at_builtin; refine wpList_append_run (by rfl) (.tmp 11) (.tmp 13) 152 (by rfl) (by rfl) (by rfl) HAP.out ?_)
  go_ret
  exact ⟨rfl, .inr HP.out, HB2.out.setCell (p := ⟨b, 1, none⟩) hB _⟩

/-- a half of a byte as a sixteen -/
def hx (n : Nat) : UInt8 := if n < 10 then UInt8.ofNat (48 + n) else UInt8.ofNat (87 + n)
def hexB (bs : List UInt8) : List UInt8 := bs.flatMap fun b => [hx (b.toNat / 16), hx (b.toNat % 16)]
theorem hexB_len (bs : List UInt8) : (hexB bs).length = 2 * bs.length := by
  induction bs with
  | nil => rfl
  | cons b r ih => simp [hexB] at *; omega
theorem hexB_snoc {bs : List UInt8} {k : Nat} (h : k < bs.length) : hexB (bs.take (k + 1)) = hexB (bs.take k) ++ [hx (bs[k].toNat / 16)] ++ [hx (bs[k].toNat % 16)] := by
  rw [hexB, List.take_succ_eq_append_getElem h, List.flatMap_append]; simp [hexB]

theorem half_walk (n : Nat) (h : n < 16) (w : World) : Calls Tryz.prog 165 #[.int .u8 n] w fun e w' => e = .returned (bv (hx n)) ∧ w' = w := by
  have hi : ∀ W, (Instr.index 9 (.string ⟨#[48, 49, 50, 51, 52, 53, 54, 55, 56, 57, 97, 98, 99, 100, 101, 102]⟩) (.int .u8 n)).run Tryz.prog W = .ok (bv (hx n)) W := by
    intro W
    have h16 : n = 0 ∨ n = 1 ∨ n = 2 ∨ n = 3 ∨ n = 4 ∨ n = 5 ∨ n = 6 ∨ n = 7 ∨ n = 8 ∨ n = 9 ∨ n = 10 ∨ n = 11 ∨ n = 12 ∨ n = 13 ∨ n = 14 ∨ n = 15 := by omega
    rcases h16 with rfl | rfl | rfl | rfl | rfl | rfl | rfl | rfl | rfl | rfl | rfl | rfl | rfl | rfl | rfl | rfl <;> (show _ = _; kernel_rfl)
  go_enter Tryz.func165, Tryz.ntmps165
  go_wp2
  go_ret
  exact ⟨rfl, rfl⟩

set_option maxHeartbeats 2000000 in
set_option maxRecDepth 100000 in
theorem Hex_walk (v : Value) (bs : List UInt8) (w : World) (h : Bytes w.heap.size w v bs) (hl : bs.length ≤ 1000000) :
    Calls Tryz.prog 126 #[v] w fun e w' => e = .returned (.string ⟨(hexB bs).toArray⟩) ∧ Below w.heap.size w w' := by
  obtain ⟨a, c, b, off, rfl, -, ha, hc⟩ := h.cells
  have HA := Lib.hid ha; have HC := Lib.hid hc
  have HB0 : Hid (Bld w.heap.size w.heap.size [] (w.alloc (.cells #[.pointer none, .slice none 0 0] 244))) := Lib.fresh_isBuilder _ _ w
  have hb0 : Below w.heap.size w (w.alloc (.cells #[.pointer none, .slice none 0 0] 244)) := (Below.refl _ _).alloc (Nat.le_refl _) _
  clear h ha hc
  go_enter Tryz.func126, Tryz.ntmps126
  go_wp2
  go_loopw [8] (fun i wr => ∃ k : Nat, k ≤ bs.length ∧ i = .int .i64 k ∧ Hid (Bld w.heap.size w.heap.size (hexB (bs.take k)) wr) ∧ Hid (Below w.heap.size w wr)) (fun i _ => bs.length - (intOf i).toNat)
  case atStart => exact ⟨0, by omega, rfl, HB0, hb0⟩
  case round =>
    clear hb0 HB0
    obtain ⟨k, hk, rfl, hX, hB⟩ := hrel
    by_cases hlt : k < bs.length
    · obtain ⟨rfl, hbl⟩ := HA.out (by omega)
      have c0 := (hB.out.cell (p := ⟨b, off + k, none⟩) hbl).trans (HC.out k hlt)
      have hl1 : (hexB (bs.take k)).length ≤ 2000000 := by rw [hexB_len, List.length_take]; omega
      have HS := Lib.hid (hexB_snoc hlt)
      obtain ⟨y, hy⟩ : ∃ z, bs[k] = z := ⟨_, rfl⟩
      rw [hy] at c0 HS
      obtain ⟨n, hn⟩ : ∃ n, y.toNat = n := ⟨_, rfl⟩
      have hn2 : n < 256 := by have := y.toNat_lt; omega
      have c1 : wr.cell? ⟨b, off + k, none⟩ = some (.int .u8 (n : Int)) := by rw [c0, bv, hn]
      have e1 : (n : Int) / 16 = ((n / 16 : Nat) : Int) := by omega
      have e2 : bits .and .u8 (n : Int) 15 = ((n % 16 : Nat) : Int) := by
        have : ∀ n : Fin 256, bits .and .u8 (n.val : Int) 15 = ((n.val % 16 : Nat) : Int) := by decide +kernel
        exact this ⟨n, hn2⟩
      rw [hn] at HS
      have hd1 : n / 16 < 16 := by omega
      have hd2 : n % 16 < 16 := by omega
      have hz := hB.out.size
      obtain ⟨d1, he1⟩ : ∃ d, n / 16 = d := ⟨_, rfl⟩
      obtain ⟨d2, he2⟩ : ∃ d, n % 16 = d := ⟨_, rfl⟩
      rw [he1, he2] at HS
      rw [he1] at e1 hd1
      rw [he2] at e2 hd2
      clear c0 hy hn he1 he2
      go_wp2_with fail
      refine (half_walk d1 hd1 _).mono ?_
      rintro e w1 ⟨rfl, rfl⟩
      go_wp2_with fail
      refine (WriteByte_walk w.heap.size w.heap.size _ _ _ rfl _ hX.out (by omega) hz).mono ?_
      rintro e w1 ⟨rfl, hX1, hb1⟩
      have HX1 := Lib.hid hX1
      have HB1 := Lib.hid (hB.out.trans hb1)
      have hz1 : w.heap.size ≤ w1.heap.size := Nat.le_trans hz hb1.size
      clear hX1 hb1 hX hB hz c1
      go_wp2_with fail
      refine (half_walk d2 hd2 _).mono ?_
      rintro e w2 ⟨rfl, rfl⟩
      go_wp2_with fail
      refine (WriteByte_walk w.heap.size w.heap.size _ _ _ rfl _ HX1.out (by rw [List.length_append, List.length_singleton]; omega) hz1).mono ?_
      rintro e w3 ⟨rfl, hX3, hb3⟩
      have HX3 : Hid (Bld w.heap.size w.heap.size (hexB (bs.take (k + 1))) w3) := by show Bld _ _ _ _; rw [HS.out]; exact hX3
      have HB3 := Lib.hid (HB1.out.trans hb3)
      clear hX3 hb3 HX1 HB1
      go_wp2
      go_roundw
      case rel => exact ⟨k + 1, by omega, by go_num, HX3, HB3⟩
      case measure => simp [intOf]; omega
    · obtain rfl : k = bs.length := by omega
      have hz := hB.out.size
      have HX : Hid (Bld w.heap.size w.heap.size (hexB bs) wr) := by have := hX.out; rw [List.take_length] at this; exact this
      clear hX
      go_wp2_with fail
      refine (Tryz.Builder_String_any w.heap.size w.heap.size _ _ HX.out hz).mono ?_
      rintro e w1 ⟨rfl, hb1⟩
      have HB1 := Lib.hid (hB.out.trans hb1)
      clear hb1
      go_wp2
      go_ret
      exact ⟨rfl, HB1.out⟩
end Go.Proofs.YtinijohmdljieaaGreatDoor

namespace Go.Proofs.YtinijohmdljieaaGreatDoor
open Go.RowKit

theorem wrap_u8' (z : Int) : IntKind.u8.wrap z = z % 256 := wrap_u8 z
theorem bits_or_u8 (a b : Nat) (ha : a < 256) (hb : b < 256) : bits .or .u8 (a : Int) (b : Int) = ((a ||| b : Nat) : Int) := by
  have hx : a ||| b < 2 ^ 8 := Nat.or_lt_two_pow (by omega) (by omega)
  have h1 : (BitVec.ofInt 8 (a : Int)).toNat = a := by
    rw [BitVec.ofInt_natCast, BitVec.toNat_ofNat]; exact Nat.mod_eq_of_lt (by omega)
  have h2 : (BitVec.ofInt 8 (b : Int)).toNat = b := by
    rw [BitVec.ofInt_natCast, BitVec.toNat_ofNat]; exact Nat.mod_eq_of_lt (by omega)
  show IntKind.u8.wrap ((BitVec.ofInt 8 (a : Int) ||| BitVec.ofInt 8 (b : Int)).toNat : Int) = _
  rw [BitVec.toNat_or, h1, h2, wrap_u8]
  omega
theorem bits_xor_u8 (a b : Nat) (ha : a < 256) (hb : b < 256) : bits .xor .u8 (a : Int) (b : Int) = ((a ^^^ b : Nat) : Int) := by
  have hx : a ^^^ b < 2 ^ 8 := Nat.xor_lt_two_pow (by omega) (by omega)
  have h1 : (BitVec.ofInt 8 (a : Int)).toNat = a := by
    rw [BitVec.ofInt_natCast, BitVec.toNat_ofNat]; exact Nat.mod_eq_of_lt (by omega)
  have h2 : (BitVec.ofInt 8 (b : Int)).toNat = b := by
    rw [BitVec.ofInt_natCast, BitVec.toNat_ofNat]; exact Nat.mod_eq_of_lt (by omega)
  show IntKind.u8.wrap ((BitVec.ofInt 8 (a : Int) ^^^ BitVec.ofInt 8 (b : Int)).toNat : Int) = _
  rw [BitVec.toNat_xor, h1, h2, wrap_u8]
  omega
def SameSt (n : Nat) (xs ys : List UInt8) (k : Nat) : Prop := n < 256 ∧ (n = 0 ↔ xs.take k = ys.take k)
theorem xor_zero {a b : Nat} : a ^^^ b = 0 ↔ a = b := by
  constructor
  · intro h
    have := congrArg (· ^^^ b) h
    simpa [Nat.xor_assoc] using this
  · rintro rfl; simp
theorem or_zero {a b : Nat} : a ||| b = 0 ↔ a = 0 ∧ b = 0 := by
  constructor
  · intro h
    have h1 : a ≤ a ||| b := Nat.left_le_or
    have h2 : b ≤ a ||| b := Nat.right_le_or
    omega
  · rintro ⟨rfl, rfl⟩; rfl
theorem SameSt.next {n : Nat} {xs ys : List UInt8} {k : Nat} (h : SameSt n xs ys k) (hx : k < xs.length) (hy : k < ys.length) : SameSt (n ||| (xs[k].toNat ^^^ ys[k].toNat)) xs ys (k + 1) := by
  have h1 := xs[k].toNat_lt
  have h2 := ys[k].toNat_lt
  refine ⟨Nat.or_lt_two_pow (n := 8) h.1 (Nat.xor_lt_two_pow (n := 8) h1 h2), ?_⟩
  rw [List.take_succ_eq_append_getElem hx, List.take_succ_eq_append_getElem hy, or_zero, xor_zero, h.2]
  constructor
  · rintro ⟨h3, h4⟩
    rw [h3, UInt8.toNat_inj.1 h4]
  · intro h3
    have := List.append_inj h3 (by simp; omega)
    exact ⟨this.1, by simpa using congrArg UInt8.toNat (List.singleton_inj.1 this.2)⟩

set_option maxHeartbeats 2000000 in
set_option maxRecDepth 100000 in
theorem Same_walk (va vb : Value) (xs ys : List UInt8) (B : Nat) (w : World) (h : Bytes B w va xs) (h2 : Bytes B w vb ys) (hl : xs.length ≤ 1000000) (hl2 : ys.length ≤ 1000000) :
    Calls Tryz.prog 80 #[va, vb] w fun e w' => e = .returned (.bool (decide (xs = ys))) ∧ ∃ q, w' = w.drewN q := by
  obtain ⟨a, c, b, off, rfl, -, ha, hc⟩ := h.cells
  obtain ⟨a', c', b', off', rfl, -, ha', hc'⟩ := h2.cells
  have HA := Lib.hid ha; have HC := Lib.hid hc; have HA' := Lib.hid ha'; have HC' := Lib.hid hc'
  clear h h2 ha hc ha' hc'
  obtain ⟨r, hr⟩ : ∃ r, decide (xs = ys) = r := ⟨_, rfl⟩
  rw [hr]
  have HR := Lib.hid hr
  clear hr
  by_cases hn : xs.length = ys.length
  · have hd : ((xs.length : Int) != (ys.length : Int)) = false := by simp [hn]
    have HN := Lib.hid hn
    have hle : xs.length ≤ ys.length := by omega
    clear hn
    go_enter Tryz.func80, Tryz.ntmps80
    go_wp2
    go_loopw [5, 14] (fun t i wr => ∃ k n q : Nat, k ≤ xs.length ∧ i = .int .i64 k ∧ t = .int .u8 n ∧ wr = w.drewN q ∧ Hid (SameSt n xs ys k)) (fun _ i _ => xs.length - (intOf i).toNat)
    case atStart => exact ⟨0, 0, 0, by omega, rfl, rfl, rfl, ⟨by omega, by simp⟩⟩
    case round =>
      obtain ⟨k, n, q, hk, rfl, rfl, rfl, hS⟩ := hrel
      by_cases hlt : k < xs.length
      · obtain ⟨rfl, -⟩ := HA.out (by omega)
        obtain ⟨rfl, -⟩ := HA'.out (by omega)
        have hlt' : k < ys.length := by omega
        have c0 := HC.out k hlt
        have c1 := HC'.out k hlt'
        have HS := Lib.hid (hS.out.next hlt hlt')
        have hn := hS.out.1
        have hx := xs[k].toNat_lt
        have hy := ys[k].toNat_lt
        obtain ⟨x, ex⟩ : ∃ x, xs[k].toNat = x := ⟨_, rfl⟩
        obtain ⟨y, ey⟩ : ∃ x, ys[k].toNat = x := ⟨_, rfl⟩
        have hz := Nat.xor_lt_two_pow (n := 8) (x := x) (y := y) (by omega) (by omega)
        have d0 : w.cell? ⟨b, off + k, none⟩ = some (.int .u8 x) := by rw [c0, bv, ex]
        have d1 : w.cell? ⟨b', off' + k, none⟩ = some (.int .u8 y) := by rw [c1, bv, ey]
        have e1 := bits_xor_u8 x y (by omega) (by omega)
        have e2 := bits_or_u8 n (x ^^^ y) (by omega) (by omega)
        rw [ex, ey] at HS
        have i1 : (0 : Int) ≤ (k : Int) := by omega
        have i2 : (k : Int) < (xs.length : Int) := by omega
        have i3 : (k : Int) < (ys.length : Int) := by omega
        clear c0 c1 ex ey hx hy hn hz hS
        go_wp2
        go_quiet (fail)
        go_wp2
        go_roundw
        case rel => exact ⟨k + 1, _, _, by omega, by go_num, rfl, rfl, HS⟩
        case measure => simp [intOf]; omega
      · obtain rfl : k = xs.length := by omega
        have HF : Hid (n = 0 ↔ xs = ys) := by
          have := hS.out.2
          rw [List.take_length, HN.out, List.take_length] at this
          exact this
        clear hS
        go_wp2
        go_ret
        exact ⟨ret_bool (by rw [← HR.out, Bool.eq_iff_iff]; simp [← HF.out]), _, rfl⟩
  · have hd : ((xs.length : Int) != (ys.length : Int)) = true := by simp; omega
    have hf : xs ≠ ys := fun e => hn (by rw [e])
    have HR2 : Hid (r = false) := by show _ = _; rw [← HR.out]; simp [hf]
    clear hn hf
    go_enter Tryz.func80, Tryz.ntmps80
    go_wp2
    go_ret
    exact ⟨ret_bool HR2.out.symm, 0, rfl⟩

/-- '[]byte(s)' -/
theorem bytesOf (w : World) (s : ByteArray) : ∃ va c w', (convert 9 152 (.string s)).run Tryz.prog w = .ok (.slice va s.size c) w' ∧ Bytes (w.heap.size + 1) w' (.slice va s.size c) s.data.toList ∧ Below w.heap.size w w' ∧ w'.heap.size = w.heap.size + 1 := by
  refine ⟨_, _, _, Lib.run_convert_string_bytes w _ _ 5 s Tryz.underlying9 Tryz.underlying152 Tryz.underlying5, ?_, ?_, Lib.bytesWorld_size _ _ _⟩
  · refine Bytes.mk' (b := w.heap.size) (off := 0) rfl ?_ (fun _ => ⟨rfl, by omega⟩) fun j hj => ?_
    · exact grownCap_ge _ _ _ _
    · rw [Nat.zero_add, Lib.bytesWorld_cell _ _ _ _ hj]
      simp [List.getD_eq_getElem?_getD, List.getElem?_eq_getElem hj]
  · exact ⟨by unfold Lib.bytesWorld World.freeze; split <;> rfl, by unfold Lib.bytesWorld World.freeze; split <;> rfl, by unfold Lib.bytesWorld World.freeze; split <;> rfl, by rw [Lib.bytesWorld_size]; omega, fun k hk => Lib.bytesWorld_at_old _ _ _ _ hk⟩

/-- so many times over -/
def iter (s : List UInt8) : Nat → List UInt8 → List UInt8
  | 0, b => b
  | n + 1, b => sealW s (iter s n b)
theorem iter_len (s : List UInt8) (n : Nat) (b : List UInt8) : (iter s n b).length ≤ b.length + 32 := by
  cases n with
  | zero => simp [iter]
  | succ n => rw [iter, sealW_len]; omega
theorem iter_len1 (s : List UInt8) (n : Nat) (b : List UInt8) (h : 0 < n) : (iter s n b).length = 32 := by
  obtain ⟨m, rfl⟩ : ∃ m, n = m + 1 := ⟨n - 1, by omega⟩
  rw [iter, sealW_len]
def passB (salt pass : List UInt8) (n : Nat) : List UInt8 := hexB (iter salt n pass)
theorem passB_len (salt pass : List UInt8) (n : Nat) (h : 0 < n) : (passB salt pass n).length = 64 := by rw [passB, hexB_len, iter_len1 _ _ _ h]

theorem store32 (w : World) (D : List UInt8) (h : D.length = 32) : (w.alloc (.cells (List.replicate 32 (bv 0)).toArray 214)).there w.heap.size 0 (D.map bv).toArray.size ∧
    Arr ((w.alloc (.cells (List.replicate 32 (bv 0)).toArray 214)).setCells w.heap.size 0 (D.map bv).toArray.toList) w.heap.size 214 (D.map bv) ∧
    Below w.heap.size w ((w.alloc (.cells (List.replicate 32 (bv 0)).toArray 214)).setCells w.heap.size 0 (D.map bv).toArray.toList) ∧
    ((w.alloc (.cells (List.replicate 32 (bv 0)).toArray 214)).setCells w.heap.size 0 (D.map bv).toArray.toList).heap.size = w.heap.size + 1 :=
  ⟨(new32 w).there (by simp [h]), (new32 w).store (by simp [h]), below_cells (Nat.le_refl _) _ _ ((Below.refl _ _).alloc (Nat.le_refl _) _), by rw [size_cells]; simp⟩

end Go.Proofs.YtinijohmdljieaaGreatDoor
