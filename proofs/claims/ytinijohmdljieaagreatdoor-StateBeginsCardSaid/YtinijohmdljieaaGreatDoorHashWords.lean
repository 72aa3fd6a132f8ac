/- Words of 32 bits as the program turns them. -/
import Derived.Test.YtinijohmdljieaaGreatDoorArrOf
namespace Go.Proofs.YtinijohmdljieaaGreatDoor
open Go.RowKit

abbrev vw (x : Int) : Value := .int .u32 x
/-- turned right by n, as the program does it -/
def ror (x : Int) (n : Nat) : Int := bits .or .u32 (x * 2 ^ (32 - n) % 4294967296) (x / 2 ^ n)

set_option maxHeartbeats 1000000 in
theorem right_walk (n : Nat) (h0 : 0 < n) (h1 : n < 32) (x : Int) (w : World) : Calls Tryz.prog 209 #[.int .u32 x, .int .i64 n] w fun e w' => e = .returned (.int .u32 (ror x n)) ∧ w' = w := by
  have hb : bits BinOp.and IntKind.u64 (IntKind.u64.wrap (-(n : Int))) 31 = ((32 - n : Nat) : Int) := by
    have : ∀ n : Fin 32, 0 < n.val → bits BinOp.and IntKind.u64 (IntKind.u64.wrap (-(n.val : Int))) 31 = ((32 - n.val : Nat) : Int) := by decide +kernel
    exact this ⟨n, h1⟩ h0
  have hb2 : (32 : Int) - ((32 - n : Nat) : Int) = (n : Int) := by omega
  have hb3 : IntKind.u64.wrap (n : Int) = (n : Int) := by
    have : ∀ n : Fin 32, IntKind.u64.wrap (n.val : Int) = (n.val : Int) := by decide +kernel
    exact this ⟨n, h1⟩
  go_enter Tryz.func209, Tryz.ntmps209
  go_wp2
  go_ret
  exact ⟨rfl, rfl⟩

theorem right_at (z : Int) (n : Nat) (hz : z = (n : Int)) (h0 : 0 < n) (h1 : n < 32) (x : Int) (w : World) : Calls Tryz.prog 209 #[.int .u32 x, .int .i64 z] w fun e w' => e = .returned (.int .u32 (ror x n)) ∧ w' = w := hz ▸ right_walk n h0 h1 x w
/-- the same, the count a number of the program's -/
def rorZ (x z : Int) : Int := ror x z.toNat
theorem right_any (x z : Int) (h : 0 < z ∧ z < 32) (w : World) : Calls Tryz.prog 209 #[.int .u32 x, .int .i64 z] w fun e w' => e = .returned (.int .u32 (rorZ x z)) ∧ w' = w := right_at z z.toNat (by omega) (by omega) (by omega) x w
theorem wrap_u32 {x : Int} (h : 0 ≤ x) (h' : x ≤ 4294967295) : IntKind.u32.wrap x = x := by
  simp [IntKind.wrap, IntKind.bits, IntKind.signed]
  omega
/-- four bytes, the greatest first -/
def word4 (a b c d : Int) : Int := bits .or .u32 (bits .or .u32 (bits .or .u32 (a * 16777216) (b * 65536)) (c * 256)) d

/-- a later word of the row -/
def sched (z16 z15 z7 z2 : Int) : Int := (((z16 + bits .xor .u32 (bits .xor .u32 (rorZ z15 7) (rorZ z15 18)) (z15 / 8)) % 4294967296 + z7) % 4294967296 + bits .xor .u32 (bits .xor .u32 (rorZ z2 17) (rorZ z2 19)) (z2 / 1024)) % 4294967296
def wkNext (m l : List Int) (k : Nat) : Int := if k < 16 then word4 (m.getD (4 * k) 0) (m.getD (4 * k + 1) 0) (m.getD (4 * k + 2) 0) (m.getD (4 * k + 3) 0) else sched (l.getD (k - 16) 0) (l.getD (k - 15) 0) (l.getD (k - 7) 0) (l.getD (k - 2) 0)
/-- the row of words, as far as it is made -/
def wk (m : List Int) : Nat → List Int
  | 0 => []
  | k + 1 => wk m k ++ [wkNext m (wk m k) k]
/-- eight words -/
structure V8 where
  a : Int
  b : Int
  c : Int
  d : Int
  e : Int
  f : Int
  g : Int
  h : Int
def V8.list (v : V8) : List Int := [v.a, v.b, v.c, v.d, v.e, v.f, v.g, v.h]
def V8.of (l : List Int) : V8 := ⟨l.getD 0 0, l.getD 1 0, l.getD 2 0, l.getD 3 0, l.getD 4 0, l.getD 5 0, l.getD 6 0, l.getD 7 0⟩
def oneE (v : V8) (kk x : Int) : Int := v.h + bits .xor .u32 (bits .xor .u32 (rorZ v.e 6) (rorZ v.e 11)) (rorZ v.e 25) + bits .xor .u32 (bits .and .u32 v.e v.f) (bits .and .u32 (bits .xor .u32 IntKind.u32.max v.e) v.g) + kk + x
def twoE (v : V8) : Int := bits .xor .u32 (bits .xor .u32 (rorZ v.a 2) (rorZ v.a 13)) (rorZ v.a 22) + bits .xor .u32 (bits .xor .u32 (bits .and .u32 v.a v.b) (bits .and .u32 v.a v.c)) (bits .and .u32 v.b v.c)
/-- a round of sixty-four -/
def rnd (kk x : Int) (v : V8) : V8 := ⟨(oneE v kk x + twoE v) % 4294967296, v.a, v.b, v.c, (v.d + oneE v kk x) % 4294967296, v.e, v.f, v.g⟩
def rnds (ks ws : List Int) (v : V8) : Nat → V8
  | 0 => v
  | k + 1 => rnd (ks.getD k 0) (ws.getD k 0) (rnds ks ws v k)
def addW (a b : List Int) : List Int := List.zipWith (fun x y => (x + y) % 4294967296) a b
/-- what a block of 64 bytes makes of eight words -/
def mixed8 (hs ks m : List Int) : List Int := addW hs (rnds ks (wk m 64) (V8.of hs) 64).list
theorem take_set_snoc {ws : List Int} {k : Nat} (h : k < ws.length) (v : Int) : (ws.set k v).take (k + 1) = ws.take k ++ [v] := by
  rw [List.take_succ_eq_append_getElem (by simpa using h), List.take_set_of_le (Nat.le_refl k)]
  simp
theorem getD_take {ws : List Int} {k p : Nat} (h : p < k) : (ws.take k).getD p 0 = ws.getD p 0 := by
  simp [List.getD_eq_getElem?_getD, h]
theorem getD_at {m : List Int} {j : Nat} (h : j < m.length) : m.getD j 0 = m[j] := by
  simp [List.getD_eq_getElem?_getD, h]

/-- 'a[k]' of a row of words by value -/
theorem run_index_row {w : World} {vs : List Value} {k : Nat} {v : Value} (hv : vs[k]? = some v) (hl : vs.length = 64) :
    (Instr.index 277 (.agg vs.toArray) (.int .i64 k)).run Tryz.prog w = .ok v w := by
  have hk : k < 64 := by
    rcases Nat.lt_or_ge k vs.length with h | h
    · omega
    · rw [List.getElem?_eq_none h] at hv; cases hv
  have h1 : (0 : Int) ≤ (k : Int) ∧ (k : Int) < ((64 : Nat) : Int) := by omega
  have a1 := Tryz.isAgg204
  have s1 := Tryz.sizeOf204
  simp [Instr.index, run_underlying Tryz.underlying277, asIntOf, h1, hk, go_sem, a1, s1, hv]
theorem run_index_row8 {w : World} {vs : List Value} {k : Nat} {v : Value} (hv : vs[k]? = some v) (hl : vs.length = 8) :
    (Instr.index 275 (.agg vs.toArray) (.int .i64 k)).run Tryz.prog w = .ok v w := by
  have hk : k < 8 := by
    rcases Nat.lt_or_ge k vs.length with h | h
    · omega
    · rw [List.getElem?_eq_none h] at hv; cases hv
  have h1 : (0 : Int) ≤ (k : Int) ∧ (k : Int) < ((8 : Nat) : Int) := by omega
  have a1 := Tryz.isAgg204
  have s1 := Tryz.sizeOf204
  simp [Instr.index, run_underlying Tryz.underlying275, asIntOf, h1, hk, go_sem, a1, s1, hv]
theorem list8 {l : List Int} (h : l.length = 8) : l = (V8.of l).list := by
  match l, h with
  | [a, b, c, d, e, f, g, i], _ => rfl
theorem addW_len {a b : List Int} (h : a.length = 8) (h2 : b.length = 8) : (addW a b).length = 8 := by simp [addW, h, h2]
theorem mixed8_len {hs ks m : List Int} (h : hs.length = 8) : (mixed8 hs ks m).length = 8 := addW_len h rfl
theorem getD_of {l : List Int} {k : Nat} (h : k < l.length) : l[k] = l.getD k 0 := by simp [List.getD_eq_getElem?_getD, h]
/-- the last loop's step -/
theorem addW_step {hs vs hh : List Int} {k : Nat} (hk : k < 8) (h : hs.length = 8) (h2 : vs.length = 8) (h3 : hh.length = 8) (ht : hh.take k = (addW hs vs).take k) (hd : hh.drop k = hs.drop k) :
    hh[k]'(by omega) = hs[k]'(by omega) ∧ (hh.set k ((hs[k]'(by omega) + vs[k]'(by omega)) % 4294967296)).take (k + 1) = (addW hs vs).take (k + 1) ∧ (hh.set k ((hs[k]'(by omega) + vs[k]'(by omega)) % 4294967296)).drop (k + 1) = hs.drop (k + 1) := by
  have e1 : hh[k]? = hs[k]? := by
    have := congrArg (fun l => l[0]?) hd
    simpa using this
  rw [List.getElem?_eq_getElem (by omega), List.getElem?_eq_getElem (by omega)] at e1
  refine ⟨Option.some.inj e1, ?_, ?_⟩
  · rw [take_set_snoc (by omega), ht, List.take_succ_eq_append_getElem (by rw [addW_len h h2]; exact hk)]
    simp [addW]
  · rw [List.drop_set_of_lt (by omega)]
    have := congrArg (fun l => l.drop 1) hd
    simpa [List.drop_drop] using this
end Go.Proofs.YtinijohmdljieaaGreatDoor
