/- A variable's block, whole; cells that stay. Words of 32 bits as the program turns them. Slices of bytes: read, made, appended to. The digest, in plain words. Variables that hold arrays: stored whole, read whole, handed back. hash.first and hash.steps. -/
import Derived.Test.YtinijohmdljieaaGreatDoorH01
import Derived.Test.YtinijohmdljieaaGreatDoorProg
import Derived.Deep.MidRow
namespace Go.Proofs.YtinijohmdljieaaGreatDoor
open Go.RowKit

theorem cell_far {w : World} {a p : Addr} {u v : Value} (h : w.cell? a = some v) (hne : a.block ≠ p.block) : ((w.setCell p u).drew).cell? a = some v :=
  (World.cell?_of_block (w := w) (Below.heap_setCell w p u a.block hne)).trans h
theorem cell_other {w : World} {g i j : Nat} {u v : Value} (h : w.cell? ⟨g, i, none⟩ = some v) (hne : i ≠ j) : ((w.setCell ⟨g, j, none⟩ u).drew).cell? ⟨g, i, none⟩ = some v := by
  show (w.setCell ⟨g, j, none⟩ u).cell? ⟨g, i, none⟩ = some v
  rw [← h]
  simp only [World.cell?, World.setCell, Array.getElem?_modify]
  cases w.heap[g]? with
  | none => simp
  | some o => cases o <;> simp [Ne.symm hne]
theorem wrap_i64 {x : Int} (h : -9223372036854775808 ≤ x) (h' : x ≤ 9223372036854775807) : IntKind.i64.wrap x = x := by
  simp [IntKind.wrap, IntKind.bits, IntKind.signed]
  omega
/-- a variable's block -/
structure Arr (w : World) (g : Nat) (t : TypeId) (vs : List Value) : Prop where
  heap : w.heap[g]? = some (.cells vs.toArray t (0, 0))
theorem Arr.cell {w : World} {g : Nat} {t : TypeId} {vs : List Value} (h : Arr w g t vs) {j : Nat} (hj : j < vs.length) : w.cell? ⟨g, j, none⟩ = some vs[j] := by
  simp [World.cell?, h.heap, hj]
theorem Arr.range {w : World} {g : Nat} {t : TypeId} {vs : List Value} (h : Arr w g t vs) : w.rangeAt g 0 vs := fun j v hv => by
  rw [Nat.zero_add]
  have hj : j < vs.length := by
    rcases Nat.lt_or_ge j vs.length with h | h
    · exact h
    · rw [List.getElem?_eq_none h] at hv; cases hv
  rw [List.getElem?_eq_getElem hj] at hv
  rw [← hv]
  exact h.cell hj
theorem Arr.frozen {w : World} {g : Nat} {t : TypeId} {vs : List Value} (h : Arr w g t vs) (j : Nat) : w.frozen? ⟨g, j, none⟩ = false := by
  simp [World.frozen?, h.heap]
theorem Arr.lt {w : World} {g : Nat} {t : TypeId} {vs : List Value} (h : Arr w g t vs) : g < w.heap.size := (Array.getElem?_eq_some_iff.1 h.heap).1
theorem Arr.drew {w : World} {g : Nat} {t : TypeId} {vs : List Value} (h : Arr w g t vs) : Arr w.drew g t vs := ⟨h.heap⟩
theorem Arr.drewN {w : World} {g : Nat} {t : TypeId} {vs : List Value} (h : Arr w g t vs) (n : Nat) : Arr (w.drewN n) g t vs := ⟨h.heap⟩
theorem Arr.alloc {w : World} {g : Nat} {t : TypeId} {vs : List Value} (h : Arr w g t vs) (o : Obj) : Arr (w.alloc o) g t vs := ⟨(Below.heap_alloc w o g h.lt).trans h.heap⟩
theorem Arr.set {w : World} {g : Nat} {t : TypeId} {vs : List Value} (h : Arr w g t vs) (j : Nat) (u : Value) : Arr (w.setCell ⟨g, j, none⟩ u) g t (vs.set j u) := by
  refine ⟨?_⟩
  simp only [World.setCell, Array.getElem?_modify, h.heap]
  simp
theorem Arr.far {w : World} {g : Nat} {t : TypeId} {vs : List Value} (h : Arr w g t vs) {a : Addr} (hne : g ≠ a.block) (u : Value) : Arr (w.setCell a u) g t vs := ⟨(Below.heap_setCell w a u g hne).trans h.heap⟩
theorem Arr.below {B : Nat} {w w' : World} {g : Nat} {t : TypeId} {vs : List Value} (h : Arr w g t vs) (hb : Below B w w') (hg : g < B) : Arr w' g t vs := ⟨(hb.block g hg).trans h.heap⟩
theorem Arr.new (w : World) (vs : List Value) (t : TypeId) : Arr (w.alloc (.cells vs.toArray t (0, 0))) w.heap.size t vs := ⟨by simp [show (w.alloc (.cells vs.toArray t (0, 0))).heap = w.heap.push (.cells vs.toArray t (0, 0)) from rfl]⟩
theorem grown_of_below {w w' : World} (hb : Below w.heap.size w w') (row : Option Nat) : w.grownBy w' row := ⟨hb.os, hb.tape, hb.output, hb.size, fun k hk _ => hb.block k hk⟩
theorem grown_drewN {w w' : World} {row : Option Nat} (h : w.grownBy w' row) (n : Nat) : w.grownBy (w'.drewN n) row := ⟨h.os, h.tape, h.output, h.size, h.block⟩
theorem grown_drew {w w' : World} {row : Option Nat} (h : w.grownBy w' row) : w.grownBy w'.drew row := ⟨h.os, h.tape, h.output, h.size, h.block⟩
theorem grown_set {w w' : World} {g : Nat} (h : w.grownBy w' (some g)) (j : Nat) (u : Value) : w.grownBy (w'.setCell ⟨g, j, none⟩ u) (some g) :=
  ⟨h.os, h.tape, h.output, by simpa [World.setCell] using h.size, fun k hk hne => (Below.heap_setCell w' ⟨g, j, none⟩ u k (fun e => hne (by rw [e]))).trans (h.block k hk hne)⟩
end Go.Proofs.YtinijohmdljieaaGreatDoor

namespace Go.Proofs.YtinijohmdljieaaGreatDoor
open Go.RowKit

abbrev vw (x : Int) : Value := .int .u32 x
/-- turned right by n, as the program does it -/
def ror (x : Int) (n : Nat) : Int := bits .or .u32 (x * 2 ^ (32 - n) % 4294967296) (x / 2 ^ n)

set_option maxHeartbeats 1000000 in
theorem right_walk (n : Nat) (h0 : 0 < n) (h1 : n < 32) (x : Int) (w : World) : Calls Tryz.prog 209 #[.int .u32 x, .int .i64 n] w fun e w' => e = .returned (.int .u32 (ror x n)) ∧ w' = w := by
  have hb : bits BinOp.and IntKind.u64 (IntKind.u64.wrap (-(n : Int))) 31 = ((32 - n : Nat) : Int) := by
    have : ∀ n : Fin 32, 0 < n.val → bits BinOp.and IntKind.u64 (IntKind.u64.wrap (-(n.val : Int))) 31 = ((32 - n.val : Nat) : Int) := by decide +kernel
    exact this ⟨n, h1⟩ h0
  have hb2 : (32 : Int) - ((32 - n : Nat) : Int) = (n : Int) := by omega
  have hb3 : IntKind.u64.wrap (n : Int) = (n : Int) := by
    have : ∀ n : Fin 32, IntKind.u64.wrap (n.val : Int) = (n.val : Int) := by decide +kernel
    exact this ⟨n, h1⟩
  go_enter Tryz.func209, Tryz.ntmps209
  go_wp2
  go_ret
  exact ⟨rfl, rfl⟩

theorem right_at (z : Int) (n : Nat) (hz : z = (n : Int)) (h0 : 0 < n) (h1 : n < 32) (x : Int) (w : World) : Calls Tryz.prog 209 #[.int .u32 x, .int .i64 z] w fun e w' => e = .returned (.int .u32 (ror x n)) ∧ w' = w := hz ▸ right_walk n h0 h1 x w
/-- the same, the count a number of the program's -/
def rorZ (x z : Int) : Int := ror x z.toNat
theorem right_any (x z : Int) (h : 0 < z ∧ z < 32) (w : World) : Calls Tryz.prog 209 #[.int .u32 x, .int .i64 z] w fun e w' => e = .returned (.int .u32 (rorZ x z)) ∧ w' = w := right_at z z.toNat (by omega) (by omega) (by omega) x w
theorem wrap_u32 {x : Int} (h : 0 ≤ x) (h' : x ≤ 4294967295) : IntKind.u32.wrap x = x := by
  simp [IntKind.wrap, IntKind.bits, IntKind.signed]
  omega
/-- four bytes, the greatest first -/
def word4 (a b c d : Int) : Int := bits .or .u32 (bits .or .u32 (bits .or .u32 (a * 16777216) (b * 65536)) (c * 256)) d

/-- a later word of the row -/
def sched (z16 z15 z7 z2 : Int) : Int := (((z16 + bits .xor .u32 (bits .xor .u32 (rorZ z15 7) (rorZ z15 18)) (z15 / 8)) % 4294967296 + z7) % 4294967296 + bits .xor .u32 (bits .xor .u32 (rorZ z2 17) (rorZ z2 19)) (z2 / 1024)) % 4294967296
def wkNext (m l : List Int) (k : Nat) : Int := if k < 16 then word4 (m.getD (4 * k) 0) (m.getD (4 * k + 1) 0) (m.getD (4 * k + 2) 0) (m.getD (4 * k + 3) 0) else sched (l.getD (k - 16) 0) (l.getD (k - 15) 0) (l.getD (k - 7) 0) (l.getD (k - 2) 0)
/-- the row of words, as far as it is made -/
def wk (m : List Int) : Nat → List Int
  | 0 => []
  | k + 1 => wk m k ++ [wkNext m (wk m k) k]
/-- eight words -/
structure V8 where
  a : Int
  b : Int
  c : Int
  d : Int
  e : Int
  f : Int
  g : Int
  h : Int
def V8.list (v : V8) : List Int := [v.a, v.b, v.c, v.d, v.e, v.f, v.g, v.h]
def V8.of (l : List Int) : V8 := ⟨l.getD 0 0, l.getD 1 0, l.getD 2 0, l.getD 3 0, l.getD 4 0, l.getD 5 0, l.getD 6 0, l.getD 7 0⟩
def oneE (v : V8) (kk x : Int) : Int := v.h + bits .xor .u32 (bits .xor .u32 (rorZ v.e 6) (rorZ v.e 11)) (rorZ v.e 25) + bits .xor .u32 (bits .and .u32 v.e v.f) (bits .and .u32 (bits .xor .u32 IntKind.u32.max v.e) v.g) + kk + x
def twoE (v : V8) : Int := bits .xor .u32 (bits .xor .u32 (rorZ v.a 2) (rorZ v.a 13)) (rorZ v.a 22) + bits .xor .u32 (bits .xor .u32 (bits .and .u32 v.a v.b) (bits .and .u32 v.a v.c)) (bits .and .u32 v.b v.c)
/-- a round of sixty-four -/
def rnd (kk x : Int) (v : V8) : V8 := ⟨(oneE v kk x + twoE v) % 4294967296, v.a, v.b, v.c, (v.d + oneE v kk x) % 4294967296, v.e, v.f, v.g⟩
def rnds (ks ws : List Int) (v : V8) : Nat → V8
  | 0 => v
  | k + 1 => rnd (ks.getD k 0) (ws.getD k 0) (rnds ks ws v k)
def addW (a b : List Int) : List Int := List.zipWith (fun x y => (x + y) % 4294967296) a b
/-- what a block of 64 bytes makes of eight words -/
def mixed8 (hs ks m : List Int) : List Int := addW hs (rnds ks (wk m 64) (V8.of hs) 64).list
theorem take_set_snoc {ws : List Int} {k : Nat} (h : k < ws.length) (v : Int) : (ws.set k v).take (k + 1) = ws.take k ++ [v] := by
  rw [List.take_succ_eq_append_getElem (by simpa using h), List.take_set_of_le (Nat.le_refl k)]
  simp
theorem getD_take {ws : List Int} {k p : Nat} (h : p < k) : (ws.take k).getD p 0 = ws.getD p 0 := by
  simp [List.getD_eq_getElem?_getD, h]
theorem getD_at {m : List Int} {j : Nat} (h : j < m.length) : m.getD j 0 = m[j] := by
  simp [List.getD_eq_getElem?_getD, h]

/-- 'a[k]' of a row of words by value -/
theorem run_index_row {w : World} {vs : List Value} {k : Nat} {v : Value} (hv : vs[k]? = some v) (hl : vs.length = 64) :
    (Instr.index 277 (.agg vs.toArray) (.int .i64 k)).run Tryz.prog w = .ok v w := by
  have hk : k < 64 := by
    rcases Nat.lt_or_ge k vs.length with h | h
    · omega
    · rw [List.getElem?_eq_none h] at hv; cases hv
  have h1 : (0 : Int) ≤ (k : Int) ∧ (k : Int) < ((64 : Nat) : Int) := by omega
  have a1 := Tryz.isAgg204
  have s1 := Tryz.sizeOf204
  simp [Instr.index, run_underlying Tryz.underlying277, asIntOf, h1, hk, go_sem, a1, s1, hv]
theorem run_index_row8 {w : World} {vs : List Value} {k : Nat} {v : Value} (hv : vs[k]? = some v) (hl : vs.length = 8) :
    (Instr.index 275 (.agg vs.toArray) (.int .i64 k)).run Tryz.prog w = .ok v w := by
  have hk : k < 8 := by
    rcases Nat.lt_or_ge k vs.length with h | h
    · omega
    · rw [List.getElem?_eq_none h] at hv; cases hv
  have h1 : (0 : Int) ≤ (k : Int) ∧ (k : Int) < ((8 : Nat) : Int) := by omega
  have a1 := Tryz.isAgg204
  have s1 := Tryz.sizeOf204
  simp [Instr.index, run_underlying Tryz.underlying275, asIntOf, h1, hk, go_sem, a1, s1, hv]
theorem list8 {l : List Int} (h : l.length = 8) : l = (V8.of l).list := by
  match l, h with
  | [a, b, c, d, e, f, g, i], _ => rfl
theorem addW_len {a b : List Int} (h : a.length = 8) (h2 : b.length = 8) : (addW a b).length = 8 := by simp [addW, h, h2]
theorem mixed8_len {hs ks m : List Int} (h : hs.length = 8) : (mixed8 hs ks m).length = 8 := addW_len h rfl
theorem getD_of {l : List Int} {k : Nat} (h : k < l.length) : l[k] = l.getD k 0 := by simp [List.getD_eq_getElem?_getD, h]
/-- the last loop's step -/
theorem addW_step {hs vs hh : List Int} {k : Nat} (hk : k < 8) (h : hs.length = 8) (h2 : vs.length = 8) (h3 : hh.length = 8) (ht : hh.take k = (addW hs vs).take k) (hd : hh.drop k = hs.drop k) :
    hh[k]'(by omega) = hs[k]'(by omega) ∧ (hh.set k ((hs[k]'(by omega) + vs[k]'(by omega)) % 4294967296)).take (k + 1) = (addW hs vs).take (k + 1) ∧ (hh.set k ((hs[k]'(by omega) + vs[k]'(by omega)) % 4294967296)).drop (k + 1) = hs.drop (k + 1) := by
  have e1 : hh[k]? = hs[k]? := by
    have := congrArg (fun l => l[0]?) hd
    simpa using this
  rw [List.getElem?_eq_getElem (by omega), List.getElem?_eq_getElem (by omega)] at e1
  refine ⟨Option.some.inj e1, ?_, ?_⟩
  · rw [take_set_snoc (by omega), ht, List.take_succ_eq_append_getElem (by rw [addW_len h h2]; exact hk)]
    simp [addW]
  · rw [List.drop_set_of_lt (by omega)]
    have := congrArg (fun l => l.drop 1) hd
    simpa [List.drop_drop] using this
end Go.Proofs.YtinijohmdljieaaGreatDoor

namespace Go.Proofs.YtinijohmdljieaaGreatDoor
open Go.RowKit

def iv (b : UInt8) : Int := b.toNat
abbrev bv (b : UInt8) : Value := .int .u8 b.toNat
/-- a number's low byte -/
def b8 (z : Int) : UInt8 := UInt8.ofNat (z % 256).toNat
theorem iv_b8 (z : Int) : ((b8 z).toNat : Int) = z % 256 := by
  have h0 : 0 ≤ z % 256 := Int.emod_nonneg _ (by decide)
  have h1 : z % 256 < 256 := Int.emod_lt_of_pos _ (by decide)
  simp [b8, UInt8.toNat_ofNat']
  omega
theorem iv_lt (b : UInt8) : 0 ≤ iv b ∧ iv b < 256 := by
  have := b.toNat_lt
  unfold iv; omega
theorem wrap_u8 (z : Int) : IntKind.u8.wrap z = z % 256 := by simp [IntKind.wrap, IntKind.bits, IntKind.signed]
theorem bv_b8 (z : Int) : Value.int .u8 (IntKind.u8.wrap z) = bv (b8 z) := by rw [wrap_u8, bv, iv_b8]
theorem bv_b8' (z : Int) : Value.int .u8 (z % 256) = bv (b8 z) := by rw [bv, iv_b8]

def ByteR (_ : World) (cs : Nat → Value) (b : UInt8) : Prop := cs 0 = bv b
abbrev Bytes (B : Nat) (w : World) (v : Value) (xs : List UInt8) : Prop := Row 1 ByteR B w v xs
theorem Bytes.below {B : Nat} {w w' : World} {v : Value} {xs : List UInt8} (h : Bytes B w v xs) (hb : Below B w w') : Bytes B w' v xs := Row.below h hb fun _ _ _ h => h
theorem Bytes.cells {B : Nat} {w : World} {v : Value} {xs : List UInt8} (h : Bytes B w v xs) : ∃ (a : Option Addr) (c b off : Nat), v = .slice a xs.length c ∧ xs.length ≤ c ∧
    (0 < xs.length → a = some ⟨b, off, none⟩ ∧ b < B) ∧ ∀ j (hj : j < xs.length), w.cell? ⟨b, off + j, none⟩ = some (bv xs[j]) := by
  obtain ⟨a, c, b, off, hv, hle, ha, hc⟩ := h.ex
  refine ⟨a, c, b, off, hv, hle, ha, fun j hj => ?_⟩
  obtain ⟨cs, h1, h2⟩ := hc j _ (List.getElem?_eq_getElem hj)
  have := h1 0 (by omega)
  rw [h2] at this
  simpa using this
theorem Bytes.mk' {B : Nat} {w : World} {a : Option Addr} {n c b off : Nat} {xs : List UInt8} (hn : xs.length = n) (hle : n ≤ c) (ha : 0 < n → a = some ⟨b, off, none⟩ ∧ b < B) (hc : ∀ j (hj : j < xs.length), w.cell? ⟨b, off + j, none⟩ = some (bv xs[j])) : Bytes B w (.slice a n c) xs := by
  subst hn
  refine ⟨a, c, b, off, rfl, hle, ha, fun j x hj => ⟨fun _ => bv x, fun i hi => ?_, rfl⟩⟩
  obtain rfl : i = 0 := by omega
  have hjl : j < xs.length := (List.getElem?_eq_some_iff.1 hj).1
  have := hc j hjl
  rw [List.getElem?_eq_getElem hjl] at hj
  injection hj with hj
  rw [hj] at this
  simpa using this
/-- the cells below B are as they were -/
theorem Bytes.keep {B : Nat} {w w' : World} {v : Value} {xs : List UInt8} (h : Bytes B w v xs) (hk : ∀ b, b < B → w'.heap[b]? = w.heap[b]?) : Bytes B w' v xs := by
  obtain ⟨a, c, b, off, rfl, hle, ha, hc⟩ := h.cells
  refine Bytes.mk' rfl hle ha fun j hj => ?_
  rw [World.cell?_of_block (w := w) (hk b (ha (by omega)).2)]
  exact hc j hj
theorem Bytes.nil (B : Nat) (w : World) : Bytes B w (.slice none 0 0) [] := Bytes.mk' (b := 0) (off := 0) rfl (Nat.le_refl _) (by simp) (by simp)

theorem elemU8 : Elem Tryz.prog 152 5 1 1 := ⟨Tryz.underlying152, ⟨.int .u8 0, by kernel_rfl, rfl⟩, by omega, Tryz.sizeOf5⟩

abbrev OwnB (w : World) (base : Nat) (va : Option Addr) (vc : Nat) (xs : List UInt8) : Prop := Own w base 5 1 va vc xs.length (xs.map bv)
theorem OwnB.nil (w : World) (base : Nat) : OwnB w base none 0 [] := Own.nil _ _ _ _
theorem OwnB.bytes {w : World} {base B : Nat} {va : Option Addr} {vc : Nat} {xs : List UInt8} (h : OwnB w base va vc xs) (hB : w.heap.size ≤ B) : Bytes B w (.slice va xs.length vc) xs := by
  by_cases h0 : 0 < xs.length
  · obtain ⟨g, rfl, -, hlt, hc, -⟩ := h.cell (by omega)
    refine Bytes.mk' (b := g) (off := 0) rfl h.cap.1 (fun _ => ⟨rfl, by omega⟩) fun j hj => ?_
    rw [Nat.zero_add]
    exact hc j _ (by rw [List.getElem?_map, List.getElem?_eq_getElem hj]; rfl)
  · have : xs = [] := List.eq_nil_of_length_eq_zero (by omega)
    subst this
    exact Bytes.mk' (b := 0) (off := 0) rfl h.cap.1 (by simp) (by simp)
theorem OwnB.bytes' {w : World} {base B n : Nat} {va : Option Addr} {vc : Nat} {xs : List UInt8} (h : OwnB w base va vc xs) (hn : xs.length = n) (hB : w.heap.size ≤ B) : Bytes B w (.slice va n vc) xs := hn ▸ h.bytes hB

theorem Own.belowG {w w' W : World} {base B vc n k : Nat} {E : TypeId} {va : Option Addr} {cells : List Value} (h : Own w base E k va vc n cells) (hb : Below B W w) (hB : B ≤ base) (hB' : B ≤ w.heap.size) (hg : w.grownBy w' (blockOf va)) : Below B W w' :=
  hb.grown hg hB' fun j hj => by
    cases va with
    | none => cases hj
    | some x =>
      injection hj with hj
      subst hj
      rcases h.block with ⟨h1, -⟩ | ⟨g, h1, h2, -⟩
      · cases h1
      · cases h1; exact Nat.le_trans hB h2

/-- 's = append(s, x...)' -/
theorem OwnB.app {w : World} {base B : Nat} {va a : Option Addr} {vc c : Nat} {xs ys : List UInt8} (h : OwnB w base va vc xs) (hbase : base ≤ w.heap.size)
    (hs : Bytes B w (.slice a ys.length c) ys) (hn : xs.length + ys.length ≤ 100000000) :
    ∃ va' vc' w', (Builtin.append_ #[152, 152] 152 #[.slice va xs.length vc, .slice a ys.length c]).run Tryz.prog w = .ok (.slice va' (xs.length + ys.length) vc') w' ∧ OwnB w' base va' vc' (xs ++ ys) ∧ w.grownBy w' (blockOf va) := by
  obtain ⟨a', c', b, o, he, -, ha, hc⟩ := hs.cells
  injection he with e1 e2 e3
  subst e1 e3
  obtain ⟨va', vc', w', h1, h2, h3⟩ := Own.app elemU8 152 h hbase a ys.length c b o (ys.map bv) (by simp) (fun h => (ha h).1) (by
      intro j u hj
      have hjl : j < ys.length := by
        rcases Nat.lt_or_ge j ys.length with h | h
        · exact h
        · rw [List.getElem?_eq_none (by simpa using h)] at hj; cases hj
      rw [hc j hjl, ← hj]
      simp [hjl]) (by intro u hu; obtain ⟨s, -, rfl⟩ := List.mem_map.1 hu; rfl) (by unfold maxLen; omega) (by omega)
  refine ⟨va', vc', w', h1, ?_, h3⟩
  have : (xs ++ ys).length = xs.length + ys.length := by simp
  rw [OwnB, this, List.map_append]
  exact h2
/-- 's = append(s, b)' -/
theorem OwnB.push {w : World} {base : Nat} {va : Option Addr} {vc : Nat} {xs : List UInt8} (h : OwnB w base va vc xs) (hbase : base ≤ w.heap.size) (b : UInt8) (u : Value) (hu : u = bv b) (hn : xs.length + 1 ≤ 100000000) :
    ∃ va' vc' w', (Builtin.append_ #[152, 152] 152 #[.slice va xs.length vc, .slice (some ⟨w.heap.size, 0, none⟩) 1 1]).run Tryz.prog (w.alloc (.cells #[u] 5)) = .ok (.slice va' (xs.length + 1) vc') w' ∧ OwnB w' base va' vc' (xs ++ [b]) ∧ (w.alloc (.cells #[u] 5)).grownBy w' (blockOf va) := by
  subst hu
  exact OwnB.app (ys := [b]) (B := w.heap.size + 1) (h.alloc _) (by simp; omega) (Bytes.mk' (b := w.heap.size) (off := 0) rfl (Nat.le_refl _) (fun _ => ⟨rfl, by omega⟩) (fun j hj => by
    obtain rfl : j = 0 := by simpa using hj
    simp [World.cell?, show (w.alloc (.cells #[bv b] 5)).heap = w.heap.push (.cells #[bv b] 5) from rfl])) hn

theorem results_cell1 {fn : Func} {p : Tmp} {ty : TypeId} (h : fn.results = #[.cell p ty]) (tmps : Array Value) (P : Program) (w : World) :
    (results fn tmps).run P w = ((asAddr (tmps.getD p undef)).run P w).andThen fun a w₁ => (loadVar ty a).run P w₁ := by
  simp only [results, h]
  simp [Sem.run_bind, Result.andThen]
end Go.Proofs.YtinijohmdljieaaGreatDoor

namespace Go.Proofs.YtinijohmdljieaaGreatDoor
open Go.RowKit

def H0 : List Int := [0x6a09e667, 0xbb67ae85, 0x3c6ef372, 0xa54ff53a, 0x510e527f, 0x9b05688c, 0x1f83d9ab, 0x5be0cd19]
def K64 : List Int := [
  0x428a2f98, 0x71374491, 0xb5c0fbcf, 0xe9b5dba5, 0x3956c25b, 0x59f111f1, 0x923f82a4, 0xab1c5ed5,
  0xd807aa98, 0x12835b01, 0x243185be, 0x550c7dc3, 0x72be5d74, 0x80deb1fe, 0x9bdc06a7, 0xc19bf174,
  0xe49b69c1, 0xefbe4786, 0x0fc19dc6, 0x240ca1cc, 0x2de92c6f, 0x4a7484aa, 0x5cb0a9dc, 0x76f988da,
  0x983e5152, 0xa831c66d, 0xb00327c8, 0xbf597fc7, 0xc6e00bf3, 0xd5a79147, 0x06ca6351, 0x14292967,
  0x27b70a85, 0x2e1b2138, 0x4d2c6dfc, 0x53380d13, 0x650a7354, 0x766a0abb, 0x81c2c92e, 0x92722c85,
  0xa2bfe8a1, 0xa81a664b, 0xc24b8b70, 0xc76c51a3, 0xd192e819, 0xd6990624, 0xf40e3585, 0x106aa070,
  0x19a4c116, 0x1e376c08, 0x2748774c, 0x34b0bcb5, 0x391c0cb3, 0x4ed8aa4a, 0x5b9cca4f, 0x682e6ff3,
  0x748f82ee, 0x78a5636f, 0x84c87814, 0x8cc70208, 0x90befffa, 0xa4506ceb, 0xbef9a3f7, 0xc67178f2]
/-- how many zeros -/
def zerosN (n : Nat) : Nat := (119 - n % 64) % 64
def lenBytes (n : Nat) : List UInt8 := (List.range 8).map fun i => b8 ((n : Int) * 8 / 2 ^ (56 - 8 * i))
def padded (bs : List UInt8) : List UInt8 := bs ++ [0x80] ++ List.replicate (zerosN bs.length) 0 ++ lenBytes bs.length
def mixN : Nat → List Int → List UInt8 → List Int
  | 0, hs, _ => hs
  | n + 1, hs, bs => mixN n (mixed8 hs K64 ((bs.take 64).map iv)) (bs.drop 64)
def digest (hs : List Int) : List UInt8 := (List.range 32).map fun j => b8 (hs.getD (j / 4) 0 / 2 ^ (24 - 8 * (j % 4)))
def sha (bs : List UInt8) : List UInt8 := digest (mixN ((padded bs).length / 64) H0 (padded bs))

theorem lenBytes_len (n : Nat) : (lenBytes n).length = 8 := by simp [lenBytes]
theorem digest_len (hs : List Int) : (digest hs).length = 32 := by simp [digest]
theorem sha_len (bs : List UInt8) : (sha bs).length = 32 := digest_len _
theorem zerosN_spec (n z : Nat) (hz : z ≤ zerosN n) : ((n + 1 + z) % 64 = 56 ↔ z = zerosN n) := by unfold zerosN at *; omega
theorem padded_len (bs : List UInt8) : (padded bs).length = bs.length + 1 + zerosN bs.length + 8 := by simp [padded, lenBytes_len]; omega
theorem padded_dvd (bs : List UInt8) : (padded bs).length % 64 = 0 := by
  rw [padded_len]; unfold zerosN; omega
theorem mixN_len : ∀ (n : Nat) (hs : List Int) (bs : List UInt8), hs.length = 8 → (mixN n hs bs).length = 8
  | 0, _, _, h => h
  | n + 1, _, _, h => mixN_len n _ _ (mixed8_len h)
theorem mixN_step {hs : List Int} {bs : List UInt8} {n : Nat} (h : bs.length = 64 * n) (hp : 0 < n) : mixN (bs.length / 64) hs bs = mixN ((bs.drop 64).length / 64) (mixed8 hs K64 ((bs.take 64).map iv)) (bs.drop 64) := by
  obtain ⟨m, rfl⟩ : ∃ m, n = m + 1 := ⟨n - 1, by omega⟩
  have e1 : bs.length / 64 = m + 1 := by omega
  have e2 : (bs.drop 64).length / 64 = m := by rw [List.length_drop]; omega
  rw [e1, e2, mixN]
theorem lenBytes_snoc (n i : Nat) (h : i < 8) : (lenBytes n).take (i + 1) = (lenBytes n).take i ++ [b8 ((n : Int) * 8 / 2 ^ (56 - 8 * i))] := by
  rw [List.take_succ_eq_append_getElem (by rw [lenBytes_len]; exact h)]
  simp [lenBytes]
theorem digest_snoc (hs : List Int) (j : Nat) (h : j < 32) : (digest hs).take (j + 1) = (digest hs).take j ++ [b8 (hs.getD (j / 4) 0 / 2 ^ (24 - 8 * (j % 4)))] := by
  rw [List.take_succ_eq_append_getElem (by rw [digest_len]; exact h)]
  simp [digest]
theorem flat_snoc {ls : List (List UInt8)} {k : Nat} (h : k < ls.length) : (ls.take (k + 1)).flatten = (ls.take k).flatten ++ ls[k] := by
  rw [List.take_succ_eq_append_getElem h, List.flatten_append]; simp
theorem flat_le {ls : List (List UInt8)} {k : Nat} (h : k < ls.length) : ((ls.take k).flatten).length + ls[k].length ≤ ls.flatten.length := by
  have : ls.flatten = (ls.take (k + 1)).flatten ++ (ls.drop (k + 1)).flatten := by rw [← List.flatten_append, List.take_append_drop]
  rw [this, flat_snoc h]; simp
end Go.Proofs.YtinijohmdljieaaGreatDoor

namespace Go.Proofs.YtinijohmdljieaaGreatDoor
open Go.RowKit

def spl (vs : List Value) : Nat → List Value → List Value
  | _, [] => vs
  | o, u :: r => spl (vs.set o u) (o + 1) r
theorem spl_eq : ∀ (new vs : List Value) (o : Nat), o + new.length ≤ vs.length → spl vs o new = vs.take o ++ new ++ vs.drop (o + new.length)
  | [], vs, o, _ => by simp [spl]
  | u :: r, vs, o, h => by
    simp only [List.length_cons] at h
    rw [spl, spl_eq r (vs.set o u) (o + 1) (by simp; omega)]
    have e : (vs.set o u).take (o + 1) = vs.take o ++ [u] := by
      rw [List.take_succ_eq_append_getElem (by simp; omega), List.take_set_of_le (Nat.le_refl o)]
      simp
    rw [e, List.drop_set_of_lt (by omega), List.length_cons, show o + 1 + r.length = o + (r.length + 1) by omega]
    simp
theorem Arr.setCells {g : Nat} {t : TypeId} : ∀ {new vs : List Value} {o : Nat} {w : World}, Arr w g t vs → Arr (w.setCells g o new) g t (spl vs o new)
  | [], _, _, _, h => h
  | u :: r, vs, o, w, h => by
    rw [World.setCells, spl]
    exact Arr.setCells (new := r) (vs := vs.set o u) (o := o + 1) (w := w.setCell ⟨g, o, none⟩ u) (h.set _ _)
theorem Arr.store {w : World} {g : Nat} {t : TypeId} {vs new : List Value} (h : Arr w g t vs) (hl : new.length = vs.length) : Arr (w.setCells g 0 new) g t new := by
  have := Arr.setCells (new := new) (o := 0) h
  rw [spl_eq _ _ _ (by omega)] at this
  simpa [hl] using this
theorem Arr.part {w : World} {g : Nat} {t : TypeId} {vs new : List Value} (h : Arr w g t vs) (hl : new.length ≤ vs.length) : Arr (w.setCells g 0 new) g t (new ++ vs.drop new.length) := by
  have := Arr.setCells (new := new) (o := 0) h
  rw [spl_eq _ _ _ (by omega)] at this
  simpa using this
theorem Arr.farCells {g b : Nat} {t : TypeId} {vs : List Value} : ∀ {new : List Value} {o : Nat} {w : World}, Arr w g t vs → g ≠ b → Arr (w.setCells b o new) g t vs
  | [], _, _, h, _ => h
  | u :: r, o, w, h, hne => by
    rw [World.setCells]
    exact Arr.farCells (new := r) (o := o + 1) (w := w.setCell ⟨b, o, none⟩ u) (h.far (a := ⟨b, o, none⟩) hne _) hne
theorem below_cells {B b : Nat} {a : World} (hb : B ≤ b) : ∀ (vs : List Value) (o : Nat) {w : World}, Below B a w → Below B a (w.setCells b o vs)
  | [], _, _, h => h
  | _ :: r, o, _, h => below_cells hb r (o + 1) (h.setCell (p := ⟨b, o, none⟩) hb _)
theorem size_cells {b : Nat} : ∀ (vs : List Value) (o : Nat) (w : World), (w.setCells b o vs).heap.size = w.heap.size
  | [], _, _ => rfl
  | u :: r, o, w => by rw [World.setCells, size_cells r]; simp [World.setCell]
theorem Arr.there {w : World} {g : Nat} {t : TypeId} {vs : List Value} (h : Arr w g t vs) {n : Nat} (hn : n ≤ vs.length) : w.there g 0 n := fun j hj => by
  rw [Nat.zero_add]
  exact ⟨by rw [h.cell (by omega)]; rfl, h.frozen j⟩
/-- a function that hands back one array, out of a variable -/
theorem ret_arr {fn : Func} {p : Tmp} {ty t : TypeId} {g : Nat} {w : World} {a : Act} {cs : List Value} {R : Ending → World → Prop} {d : TypeDesc} (h : fn.results = #[.cell p ty]) (hp : a.tmps.getD p undef = .pointer (some ⟨g, 0, none⟩))
    (hd : a.defers = []) (hA : Arr w g t cs) (hu : Tryz.prog.underlying ty = some d) (hr : d.isRow = true) (hi : (Tryz.prog.info? ty).map (·.size) = some cs.length) (hR : R (.returned (.agg cs.toArray)) w) : bodyPost Tryz.prog fn R .ret a w := by
  refine bodyPost_ret ?_ hd hR
  rw [results_cell1 h, hp]
  simp only [asAddr, Sem.run_pure, Result.andThen_ok]
  exact run_loadVar_mid w g 0 ty cs d hA.range hu hr hi
end Go.Proofs.YtinijohmdljieaaGreatDoor

namespace Go.Proofs.YtinijohmdljieaaGreatDoor
open Go.RowKit

/-- a composite of constants, whose value is known -/
theorem wpList_build_known {P : Program} {w : World} {ops : Array Oper} {rest : List Oper} {o : Oper} {a : Act} {Q : Exit → Act → World → Prop} (hgd : o.guard = none) (ty : TypeId) (parts : Array (Nat × Operand))
    (ho : o.op = .build ty parts) {v : Value} (hr : ∀ W, (Instr.build ty (parts.map fun (i, x) => (i, a.eval x))).run P W = .ok v W) (h : wpList P ops Q rest (a.put o.dst v) w) : wpList P ops Q (o :: rest) a w :=
  wpList_plain hgd fun K hK => by
    unfold Oper.wp execOp
    simp only [ho, Sem.run_bind, hr, Result.andThen_ok, Sem.run_pure]
    exact hK _ _ h
def hArr : Array Value := (H0.map vw).toArray
theorem first_walk (w : World) : Calls Tryz.prog 191 #[] w fun e w' => e = .returned (.agg hArr) ∧ Below w.heap.size w w' := by
  go_enter Tryz.func191, Tryz.ntmps191
  go_wp2
  exact ret_arr Tryz.results191 rfl rfl (Arr.new w (H0.map vw) 275) Tryz.underlying275 rfl (by kernel_rfl) ⟨rfl, (Below.refl _ _).alloc (Nat.le_refl _) _⟩
def kArr : Array Value := (K64.map vw).toArray
set_option maxHeartbeats 1000000 in
set_option maxRecDepth 100000 in
theorem steps_walk (w : World) : Calls Tryz.prog 192 #[] w fun e w' => e = .returned (.agg kArr) ∧ Below w.heap.size w w' := by
  have hA0 : Arr (w.alloc (.cells (List.replicate 64 (vw 0)).toArray 277)) w.heap.size 277 (List.replicate 64 (vw 0)) := Arr.new w _ _
  have HT : Hid ((w.alloc (.cells (List.replicate 64 (vw 0)).toArray 277)).there w.heap.size 0 kArr.size) := hA0.there (by simp [kArr, K64])
  have HI : Hid ((Tryz.prog.info? 277).map (·.size) = some kArr.size) := by show _ = _; kernel_rfl
  have HO : Hid (kArr.all (·.oneCell') = true) := all_oneCell_toArray (by intro v hv; obtain ⟨x, -, rfl⟩ := List.mem_map.1 hv; rfl)
  have HA := Lib.hid hA0
  have HB : Hid (Below w.heap.size w (w.alloc (.cells (List.replicate 64 (vw 0)).toArray 277))) := (Below.refl _ _).alloc (Nat.le_refl _) _
  clear hA0
  go_enter Tryz.func192, Tryz.ntmps192
  go_wp2_with (first | (refine wpList_build_known (by rfl) 277 _ (by rfl) (v := .agg kArr) (fun W => by kernel_rfl) ?_) | (refine wpList_store_mid (by rfl) 277 _ _ (by rfl) w.heap.size 0 kArr (by rfl) (by rfl) HT.out HI.out HO.out ?_))
  have h1 := HA.out.store (new := kArr.toList) (by simp [kArr, K64])
  have h2 := below_cells (b := w.heap.size) (Nat.le_refl _) kArr.toList 0 HB.out
  go_wp2
  exact ret_arr Tryz.results192 rfl rfl h1 Tryz.underlying277 rfl (by kernel_rfl) ⟨rfl, h2⟩
end Go.Proofs.YtinijohmdljieaaGreatDoor
