/- Slices of bytes: read, made, appended to. -/
import Derived.Test.YtinijohmdljieaaGreatDoorOwn
import Derived.Test.YtinijohmdljieaaGreatDoorProg
import Derived.Deep.MidRow
namespace Go.Proofs.YtinijohmdljieaaGreatDoor
open Go.RowKit

def iv (b : UInt8) : Int := b.toNat
abbrev bv (b : UInt8) : Value := .int .u8 b.toNat
/-- a number's low byte -/
def b8 (z : Int) : UInt8 := UInt8.ofNat (z % 256).toNat
theorem iv_b8 (z : Int) : ((b8 z).toNat : Int) = z % 256 := by
  have h0 : 0 ≤ z % 256 := Int.emod_nonneg _ (by decide)
  have h1 : z % 256 < 256 := Int.emod_lt_of_pos _ (by decide)
  simp [b8, UInt8.toNat_ofNat']
  omega
theorem iv_lt (b : UInt8) : 0 ≤ iv b ∧ iv b < 256 := by
  have := b.toNat_lt
  unfold iv; omega
theorem wrap_u8 (z : Int) : IntKind.u8.wrap z = z % 256 := by simp [IntKind.wrap, IntKind.bits, IntKind.signed]
theorem bv_b8 (z : Int) : Value.int .u8 (IntKind.u8.wrap z) = bv (b8 z) := by rw [wrap_u8, bv, iv_b8]
theorem bv_b8' (z : Int) : Value.int .u8 (z % 256) = bv (b8 z) := by rw [bv, iv_b8]

def ByteR (_ : World) (cs : Nat → Value) (b : UInt8) : Prop := cs 0 = bv b
abbrev Bytes (B : Nat) (w : World) (v : Value) (xs : List UInt8) : Prop := Row 1 ByteR B w v xs
theorem Bytes.below {B : Nat} {w w' : World} {v : Value} {xs : List UInt8} (h : Bytes B w v xs) (hb : Below B w w') : Bytes B w' v xs := Row.below h hb fun _ _ _ h => h
theorem Bytes.cells {B : Nat} {w : World} {v : Value} {xs : List UInt8} (h : Bytes B w v xs) : ∃ (a : Option Addr) (c b off : Nat), v = .slice a xs.length c ∧ xs.length ≤ c ∧
    (0 < xs.length → a = some ⟨b, off, none⟩ ∧ b < B) ∧ ∀ j (hj : j < xs.length), w.cell? ⟨b, off + j, none⟩ = some (bv xs[j]) := by
  obtain ⟨a, c, b, off, hv, hle, ha, hc⟩ := h.ex
  refine ⟨a, c, b, off, hv, hle, ha, fun j hj => ?_⟩
  obtain ⟨cs, h1, h2⟩ := hc j _ (List.getElem?_eq_getElem hj)
  have := h1 0 (by omega)
  rw [h2] at this
  simpa using this
theorem Bytes.mk' {B : Nat} {w : World} {a : Option Addr} {n c b off : Nat} {xs : List UInt8} (hn : xs.length = n) (hle : n ≤ c) (ha : 0 < n → a = some ⟨b, off, none⟩ ∧ b < B) (hc : ∀ j (hj : j < xs.length), w.cell? ⟨b, off + j, none⟩ = some (bv xs[j])) : Bytes B w (.slice a n c) xs := by
  subst hn
  refine ⟨a, c, b, off, rfl, hle, ha, fun j x hj => ⟨fun _ => bv x, fun i hi => ?_, rfl⟩⟩
  obtain rfl : i = 0 := by omega
  have hjl : j < xs.length := (List.getElem?_eq_some_iff.1 hj).1
  have := hc j hjl
  rw [List.getElem?_eq_getElem hjl] at hj
  injection hj with hj
  rw [hj] at this
  simpa using this
/-- the cells below B are as they were -/
theorem Bytes.keep {B : Nat} {w w' : World} {v : Value} {xs : List UInt8} (h : Bytes B w v xs) (hk : ∀ b, b < B → w'.heap[b]? = w.heap[b]?) : Bytes B w' v xs := by
  obtain ⟨a, c, b, off, rfl, hle, ha, hc⟩ := h.cells
  refine Bytes.mk' rfl hle ha fun j hj => ?_
  rw [World.cell?_of_block (w := w) (hk b (ha (by omega)).2)]
  exact hc j hj
theorem Bytes.nil (B : Nat) (w : World) : Bytes B w (.slice none 0 0) [] := Bytes.mk' (b := 0) (off := 0) rfl (Nat.le_refl _) (by simp) (by simp)

theorem elemU8 : Elem Tryz.prog 152 5 1 1 := ⟨Tryz.underlying152, ⟨.int .u8 0, by kernel_rfl, rfl⟩, by omega, Tryz.sizeOf5⟩

abbrev OwnB (w : World) (base : Nat) (va : Option Addr) (vc : Nat) (xs : List UInt8) : Prop := Own w base 5 1 va vc xs.length (xs.map bv)
theorem OwnB.nil (w : World) (base : Nat) : OwnB w base none 0 [] := Own.nil _ _ _ _
theorem OwnB.bytes {w : World} {base B : Nat} {va : Option Addr} {vc : Nat} {xs : List UInt8} (h : OwnB w base va vc xs) (hB : w.heap.size ≤ B) : Bytes B w (.slice va xs.length vc) xs := by
  by_cases h0 : 0 < xs.length
  · obtain ⟨g, rfl, -, hlt, hc, -⟩ := h.cell (by omega)
    refine Bytes.mk' (b := g) (off := 0) rfl h.cap.1 (fun _ => ⟨rfl, by omega⟩) fun j hj => ?_
    rw [Nat.zero_add]
    exact hc j _ (by rw [List.getElem?_map, List.getElem?_eq_getElem hj]; rfl)
  · have : xs = [] := List.eq_nil_of_length_eq_zero (by omega)
    subst this
    exact Bytes.mk' (b := 0) (off := 0) rfl h.cap.1 (by simp) (by simp)
theorem OwnB.bytes' {w : World} {base B n : Nat} {va : Option Addr} {vc : Nat} {xs : List UInt8} (h : OwnB w base va vc xs) (hn : xs.length = n) (hB : w.heap.size ≤ B) : Bytes B w (.slice va n vc) xs := hn ▸ h.bytes hB

theorem Own.belowG {w w' W : World} {base B vc n k : Nat} {E : TypeId} {va : Option Addr} {cells : List Value} (h : Own w base E k va vc n cells) (hb : Below B W w) (hB : B ≤ base) (hB' : B ≤ w.heap.size) (hg : w.grownBy w' (blockOf va)) : Below B W w' :=
  hb.grown hg hB' fun j hj => by
    cases va with
    | none => cases hj
    | some x =>
      injection hj with hj
      subst hj
      rcases h.block with ⟨h1, -⟩ | ⟨g, h1, h2, -⟩
      · cases h1
      · cases h1; exact Nat.le_trans hB h2

/-- 's = append(s, x...)' -/
theorem OwnB.app {w : World} {base B : Nat} {va a : Option Addr} {vc c : Nat} {xs ys : List UInt8} (h : OwnB w base va vc xs) (hbase : base ≤ w.heap.size)
    (hs : Bytes B w (.slice a ys.length c) ys) (hn : xs.length + ys.length ≤ 100000000) :
    ∃ va' vc' w', (Builtin.append_ #[152, 152] 152 #[.slice va xs.length vc, .slice a ys.length c]).run Tryz.prog w = .ok (.slice va' (xs.length + ys.length) vc') w' ∧ OwnB w' base va' vc' (xs ++ ys) ∧ w.grownBy w' (blockOf va) := by
  obtain ⟨a', c', b, o, he, -, ha, hc⟩ := hs.cells
  injection he with e1 e2 e3
  subst e1 e3
  obtain ⟨va', vc', w', h1, h2, h3⟩ := Own.app elemU8 152 h hbase a ys.length c b o (ys.map bv) (by simp) (fun h => (ha h).1) (by
      intro j u hj
      have hjl : j < ys.length := by
        rcases Nat.lt_or_ge j ys.length with h | h
        · exact h
        · rw [List.getElem?_eq_none (by simpa using h)] at hj; cases hj
      rw [hc j hjl, ← hj]
      simp [hjl]) (by intro u hu; obtain ⟨s, -, rfl⟩ := List.mem_map.1 hu; rfl) (by unfold maxLen; omega) (by omega)
  refine ⟨va', vc', w', h1, ?_, h3⟩
  have : (xs ++ ys).length = xs.length + ys.length := by simp
  rw [OwnB, this, List.map_append]
  exact h2
/-- 's = append(s, b)' -/
theorem OwnB.push {w : World} {base : Nat} {va : Option Addr} {vc : Nat} {xs : List UInt8} (h : OwnB w base va vc xs) (hbase : base ≤ w.heap.size) (b : UInt8) (u : Value) (hu : u = bv b) (hn : xs.length + 1 ≤ 100000000) :
    ∃ va' vc' w', (Builtin.append_ #[152, 152] 152 #[.slice va xs.length vc, .slice (some ⟨w.heap.size, 0, none⟩) 1 1]).run Tryz.prog (w.alloc (.cells #[u] 5)) = .ok (.slice va' (xs.length + 1) vc') w' ∧ OwnB w' base va' vc' (xs ++ [b]) ∧ (w.alloc (.cells #[u] 5)).grownBy w' (blockOf va) := by
  subst hu
  exact OwnB.app (ys := [b]) (B := w.heap.size + 1) (h.alloc _) (by simp; omega) (Bytes.mk' (b := w.heap.size) (off := 0) rfl (Nat.le_refl _) (fun _ => ⟨rfl, by omega⟩) (fun j hj => by
    obtain rfl : j = 0 := by simpa using hj
    simp [World.cell?, show (w.alloc (.cells #[bv b] 5)).heap = w.heap.push (.cells #[bv b] 5) from rfl])) hn

theorem results_cell1 {fn : Func} {p : Tmp} {ty : TypeId} (h : fn.results = #[.cell p ty]) (tmps : Array Value) (P : Program) (w : World) :
    (results fn tmps).run P w = ((asAddr (tmps.getD p undef)).run P w).andThen fun a w₁ => (loadVar ty a).run P w₁ := by
  simp only [results, h]
  simp [Sem.run_bind, Result.andThen]
end Go.Proofs.YtinijohmdljieaaGreatDoor
