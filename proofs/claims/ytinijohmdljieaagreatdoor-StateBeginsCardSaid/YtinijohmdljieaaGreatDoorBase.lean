/- Small lemmas that every text of this claim may use. -/
import Derived.WalkKit
import Derived.WalkLawsBesides
import Derived.WalkSpells
import Derived.Lib.Hide
import Derived.Deep.QuietTactic
import Derived.BigQuiet
namespace Go.Proofs.YtinijohmdljieaaGreatDoor
open Go.RowKit

theorem ret_bool {a b : Bool} (h : a = b) : Ending.returned (.bool a) = Ending.returned (.bool b) := by rw [h]
theorem ret_int {k : IntKind} {a b : Int} (h : a = b) : Ending.returned (.int k a) = Ending.returned (.int k b) := by rw [h]
theorem ba_len (s : ByteArray) : s.data.toList.length = s.size := rfl
theorem ba_empty (s : ByteArray) : s.toList.isEmpty = s.data.toList.isEmpty := by rw [Go.ByteArray.toList_eq]
theorem ba_eq (a b : ByteArray) : (a.toList == b.toList) = decide (a = b) := by
  rw [Go.ByteArray.toList_eq, Go.ByteArray.toList_eq, Bool.eq_iff_iff]
  simp only [beq_iff_eq, decide_eq_true_eq]
  constructor
  · intro h; cases a; cases b; simp_all
  · rintro rfl; rfl
theorem take_snoc (s : ByteArray) (k : Nat) (h : k < s.size) : s.data.toList.take (k + 1) = s.data.toList.take k ++ [s[k]] := by
  rw [List.take_succ_eq_append_getElem (by simpa using h)]; rfl
theorem all_snoc {p : UInt8 → Bool} {s : ByteArray} {k : Nat} (h : k < s.size) (h0 : (s.data.toList.take k).all p = true) (h1 : p s[k] = true) : (s.data.toList.take (k+1)).all p = true := by
  rw [take_snoc s k h, List.all_append, h0]; simp [h1]
theorem all_no {p : UInt8 → Bool} {s : ByteArray} {k : Nat} (h : k < s.size) (h1 : p s[k] = false) : s.data.toList.all p = false := by
  rw [List.all_eq_false]; exact ⟨s[k], by simp [ByteArray.getElem_eq_getElem_data], by simp [h1]⟩
theorem all_end {p : UInt8 → Bool} {s : ByteArray} {k : Nat} (h : ¬ k < s.size) (h0 : (s.data.toList.take k).all p = true) : s.data.toList.all p = true := by
  rwa [List.take_of_length_le (by rw [ba_len]; omega)] at h0

/-- cells and marks below stay -/
theorem bcell {W w1 : World} (hb : Below W.heap.size W w1) : (∀ b o, b < W.heap.size → w1.cell? ⟨b, o, none⟩ = W.cell? ⟨b, o, none⟩) ∧ (∀ b o, b < W.heap.size → w1.frozen? ⟨b, o, none⟩ = W.frozen? ⟨b, o, none⟩) :=
  ⟨fun b o h => hb.cell (p := ⟨b, o, none⟩) h, fun b o h => hb.frozen (p := ⟨b, o, none⟩) h⟩
theorem below_drewN {B : Nat} {a w : World} (h : Below B a w) (n : Nat) : Below B a (w.drewN n) := ⟨h.os, h.tape, h.output, h.size, h.block⟩

/-- a quiet call in a world that has drawn already -/
theorem q_same {P : Program} {f : FuncId} {args : Array Value} {w : World} {a n : Nat} {v : Value}
    (h : Calls P f args (w.drewN (a + n)) fun e w' => e = .returned v ∧ w' = w.drewN (a + n)) :
    Calls P f args (w.drewN (a + n)) fun e w'' => e = .returned v ∧ ∃ m, w'' = w.drewN (a + m) :=
  h.mono fun _ _ ⟨he, hm⟩ => ⟨he, n, hm⟩
theorem q_left {P : Program} {f : FuncId} {args : Array Value} {w : World} {a n : Nat} {v : Value}
    (h : Calls P f args (w.drewN (a + n)) fun e w' => e = .returned v ∧ w.drewN (a + n) = w') :
    Calls P f args (w.drewN (a + n)) fun e w'' => e = .returned v ∧ ∃ m, w'' = w.drewN (a + m) :=
  h.mono fun _ _ ⟨he, hm⟩ => ⟨he, n, hm.symm⟩

/-! A slice whose elements have k cells each: R says what the cells of one element are. -/
structure Row {α : Type} (k : Nat) (R : World → (Nat → Value) → α → Prop) (B : Nat) (w : World) (v : Value) (xs : List α) : Prop where
  ex : ∃ (a : Option Addr) (c b off : Nat), v = .slice a xs.length c ∧ xs.length ≤ c ∧ (0 < xs.length → a = some ⟨b, off, none⟩ ∧ b < B) ∧
    ∀ j x, xs[j]? = some x → ∃ cs : Nat → Value, (∀ i, i < k → w.cell? ⟨b, off + j * k + i, none⟩ = some (cs i)) ∧ R w cs x

theorem Row.below {α : Type} {k : Nat} {R : World → (Nat → Value) → α → Prop} {B : Nat} {w w' : World} {v : Value} {xs : List α} (h : Row k R B w v xs) (hb : Below B w w')
    (hR : ∀ cs x, x ∈ xs → R w cs x → R w' cs x) : Row k R B w' v xs := by
  obtain ⟨a, c, b, off, hv, hle, ha, hc⟩ := h.ex
  refine ⟨a, c, b, off, hv, hle, ha, fun j x hj => ?_⟩
  obtain ⟨cs, h1, h2⟩ := hc j x hj
  have hl : j < xs.length := by
    rcases Nat.lt_or_ge j xs.length with h | h
    · exact h
    · rw [List.getElem?_eq_none h] at hj; cases hj
  exact ⟨cs, fun i hi => by rw [hb.cell (p := ⟨b, off + j * k + i, none⟩) (ha (by omega)).2]; exact h1 i hi, hR _ _ (List.mem_of_getElem? hj) h2⟩

theorem Row.mono {α : Type} {k : Nat} {R : World → (Nat → Value) → α → Prop} {B B' : Nat} {w : World} {v : Value} {xs : List α} (h : Row k R B w v xs) (hB : B ≤ B') : Row k R B' w v xs := by
  obtain ⟨a, c, b, off, hv, hle, ha, hc⟩ := h.ex
  exact ⟨a, c, b, off, hv, hle, fun h => ⟨(ha h).1, Nat.lt_of_lt_of_le (ha h).2 hB⟩, hc⟩

def StrR (_ : World) (cs : Nat → Value) (s : ByteArray) : Prop := cs 0 = .string s
abbrev Strs (B : Nat) (w : World) (v : Value) (xs : List ByteArray) : Prop := Row 1 StrR B w v xs
def Str2R (_ : World) (cs : Nat → Value) (s : ByteArray × ByteArray) : Prop := cs 0 = .string s.1 ∧ cs 1 = .string s.2
abbrev Str2s (B : Nat) (w : World) (v : Value) (xs : List (ByteArray × ByteArray)) : Prop := Row 2 Str2R B w v xs

theorem Strs.below {B : Nat} {w w' : World} {v : Value} {xs : List ByteArray} (h : Strs B w v xs) (hb : Below B w w') : Strs B w' v xs := Row.below h hb fun _ _ _ h => h
theorem Str2s.below {B : Nat} {w w' : World} {v : Value} {xs : List (ByteArray × ByteArray)} (h : Str2s B w v xs) (hb : Below B w w') : Str2s B w' v xs := Row.below h hb fun _ _ _ h => h

/-- the cells of a slice of pairs of strings, written out -/
theorem Str2s.cells {B : Nat} {w : World} {v : Value} {xs : List (ByteArray × ByteArray)} (h : Str2s B w v xs) : ∃ (a : Option Addr) (c b off : Nat), v = .slice a xs.length c ∧ xs.length ≤ c ∧
    (0 < xs.length → a = some ⟨b, off, none⟩ ∧ b < B) ∧ ∀ j (hj : j < xs.length), w.cell? ⟨b, off + j * 2, none⟩ = some (.string xs[j].1) ∧ w.cell? ⟨b, off + j * 2 + 1, none⟩ = some (.string xs[j].2) := by
  obtain ⟨a, c, b, off, hv, hle, ha, hc⟩ := h.ex
  refine ⟨a, c, b, off, hv, hle, ha, fun j hj => ?_⟩
  obtain ⟨cs, h1, h2, h3⟩ := hc j _ (List.getElem?_eq_getElem hj)
  exact ⟨by rw [← h2]; exact h1 0 (by omega), by rw [← h3]; exact h1 1 (by omega)⟩
theorem Strs.cells {B : Nat} {w : World} {v : Value} {xs : List ByteArray} (h : Strs B w v xs) : ∃ (a : Option Addr) (c b off : Nat), v = .slice a xs.length c ∧ xs.length ≤ c ∧
    (0 < xs.length → a = some ⟨b, off, none⟩ ∧ b < B) ∧ ∀ j (hj : j < xs.length), w.cell? ⟨b, off + j, none⟩ = some (.string xs[j]) := by
  obtain ⟨a, c, b, off, hv, hle, ha, hc⟩ := h.ex
  refine ⟨a, c, b, off, hv, hle, ha, fun j hj => ?_⟩
  obtain ⟨cs, h1, h2⟩ := hc j _ (List.getElem?_eq_getElem hj)
  have := h1 0 (by omega)
  rw [h2] at this
  simpa using this
end Go.Proofs.YtinijohmdljieaaGreatDoor
