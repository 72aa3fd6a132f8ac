/- A guard's text, and that it is read as the guard: plain. -/
import Derived.Test.YtkmgbkcpjlilpaaDoorGDeep
namespace Go.Proofs.YtkmgbkcpjlilpaaDoor
open Go.RowKit

def GT.isLeaf : GT → Bool
  | .leaf .. => true
  | _ => false
def wrapT (l : Bool) (t : List UInt8) : List UInt8 := if l then t else 40 :: (t ++ [41])
def opT : Nat → List UInt8
  | 9 => [97, 110, 100]
  | 10 => [111, 114]
  | 11 => [61]
  | 12 => [60]
  | 13 => [43]
  | 14 => [45]
  | _ => [42]
def leafT (k : Nat) (n : Int) (s : ByteArray) : List UInt8 := match k with
  | 1 => [116, 114, 117, 101]
  | 2 => [102, 97, 108, 115, 101]
  | 3 => Lib.decDigits n.toNat
  | 4 => 39 :: (s.data.toList ++ [39])
  | 6 => [111, 112, 101, 110, 40] ++ (s.data.toList ++ [41])
  | 7 => [100, 111, 110, 101, 40] ++ (s.data.toList ++ [41])
  | _ => s.data.toList
def GT.txt : GT → List UInt8
  | .leaf k n s => leafT k n s
  | .one _ a => [110, 111, 116, 32] ++ wrapT a.isLeaf a.txt
  | .two k a b => wrapT a.isLeaf a.txt ++ 32 :: (opT k ++ 32 :: wrapT b.isLeaf b.txt)
abbrev GT.kid (t : GT) : List UInt8 := wrapT t.isLeaf t.txt
/-- may a guard be? -/
def GT.may : GT → Prop
  | .leaf k n s => ((k = 1 ∨ k = 2) ∧ n = 0 ∧ s = ⟨#[]⟩) ∨ (k = 3 ∧ 0 ≤ n ∧ n ≤ 9223372036854775807 ∧ s = ⟨#[]⟩) ∨ (k = 4 ∧ n = 0 ∧ s.data.toList.all quotB = true) ∨ ((k = 5 ∨ k = 6 ∨ k = 7) ∧ n = 0 ∧ namedG s = true)
  | .one k a => k = 8 ∧ a.may
  | .two k a b => (9 ≤ k ∧ k ≤ 15) ∧ a.may ∧ b.may

/-! A state that stands at a list of bytes. -/
structure AtL (s : ByteArray) (st : GSt) (l : List UInt8) : Prop where
  pos : st.pos ≤ s.size
  drop : s.data.toList.drop st.pos = l
  i : st.i = st.pos + longB l
  now : st.now.data.toList = l.take (longB l)
  good : l = [] ∨ 0 < longB l
def Good (l : List UInt8) : Prop := l = [] ∨ 0 < longB l
def bl (l : List UInt8) : List UInt8 := l.dropWhile (· == 32)
theorem drop_tw (l : List UInt8) : l.drop (l.takeWhile (· == 32)).length = bl l := by
  unfold bl
  induction l with
  | nil => rfl
  | cons c r ih =>
    by_cases h : (c == 32) = true
    · rw [List.takeWhile_cons, List.dropWhile_cons, if_pos h, if_pos h, List.length_cons, List.drop_succ_cons, ih]
    · rw [List.takeWhile_cons, List.dropWhile_cons, if_neg h, if_neg h]; rfl
theorem from_drop (s : ByteArray) (i : Nat) : s.data.toList.drop (fromB s i) = bl (s.data.toList.drop i) := by
  rw [← drop_tw, List.drop_drop]; rfl
/-- a step, to what stands behind the blanks -/
theorem step_at {s : ByteArray} {i : Nat} (hi : i ≤ s.size) (hg : Good (bl (s.data.toList.drop i))) : ∃ st, stepB s i = .ok st ∧ AtL s st (bl (s.data.toList.drop i)) := by
  have h1 := from_drop s i
  have h2 := fromB_le s hi
  have h3 := longB_le (bl (s.data.toList.drop i))
  have hlen : (bl (s.data.toList.drop i)).length = s.size - fromB s i := by rw [← h1, List.length_drop, ba_len]
  by_cases he : fromB s i = s.size
  · have hnil : bl (s.data.toList.drop i) = [] := List.eq_nil_of_length_eq_zero (by rw [hlen]; omega)
    refine ⟨⟨fromB s i, fromB s i, ⟨#[]⟩⟩, by unfold stepB; rw [if_pos he], ?_⟩
    rw [hnil]
    exact ⟨h2, by rw [h1, hnil], rfl, rfl, .inl rfl⟩
  · have hne : bl (s.data.toList.drop i) ≠ [] := fun h => by rw [h] at hlen; simp at hlen; omega
    have hp : 0 < longB (bl (s.data.toList.drop i)) := hg.resolve_left hne
    refine ⟨⟨fromB s i + longB (bl (s.data.toList.drop i)), fromB s i, s.extract (fromB s i) (fromB s i + longB (bl (s.data.toList.drop i)))⟩, by unfold stepB; rw [if_neg he, h1, if_neg (by omega)], ?_⟩
    refine ⟨h2, h1, rfl, ?_, .inr hp⟩
    simp only [ByteArray.data_extract, Array.toList_extract]
    show (s.data.toList.drop (fromB s i)).take (fromB s i + longB (bl (s.data.toList.drop i)) - fromB s i) = _
    rw [h1, Nat.add_sub_cancel_left]
theorem AtL.le {s : ByteArray} {st : GSt} {l : List UInt8} (h : AtL s st l) : st.i ≤ s.size := by
  have h1 := longB_le l
  have h2 : l.length = s.size - st.pos := by rw [← h.drop, List.length_drop, ba_len]
  have := h.pos
  rw [h.i]; omega
theorem AtL.rest {s : ByteArray} {st : GSt} {l : List UInt8} (h : AtL s st l) : s.data.toList.drop st.i = l.drop (longB l) := by
  rw [h.i, ← h.drop, List.drop_drop]
/-- a token, and what is behind it -/
structure Tk (x r : List UInt8) : Prop where
  pos : 0 < x.length
  long : longB (x ++ r) = x.length
theorem AtL.now_eq {s : ByteArray} {st : GSt} {x r : List UInt8} (h : AtL s st (x ++ r)) (ht : Tk x r) : st.now = ⟨x.toArray⟩ := by
  have := h.now
  rw [ht.long, List.take_left] at this
  exact ByteArray.ext (by rw [← this])
theorem AtL.next {s : ByteArray} {st : GSt} {x r : List UInt8} (h : AtL s st (x ++ r)) (ht : Tk x r) (hg : Good (bl r)) : ∃ st', stepB s st.i = .ok st' ∧ AtL s st' (bl r) := by
  have h1 := h.rest
  rw [ht.long, List.drop_left] at h1
  have h2 := step_at h.le (by rw [h1]; exact hg)
  rwa [h1] at h2
theorem AtL.now_nil {s : ByteArray} {st : GSt} (h : AtL s st []) : st.now = ⟨#[]⟩ := by
  have := h.now
  exact ByteArray.ext (Array.ext' (by rw [this]; rfl))

/-! Tokens. -/
/-- what may stand behind a word -/
def Stop (r : List UInt8) : Prop := r = [] ∨ ∃ c t, r = c :: t ∧ (c = 32 ∨ c = 40 ∨ c = 41)
theorem Stop.tw {r : List UInt8} (h : Stop r) {p : UInt8 → Bool} (h1 : p 32 = false) (h2 : p 40 = false) (h3 : p 41 = false) (x : List UInt8) (hx : x.all p = true) : (x ++ r).takeWhile p = x := by
  rw [List.takeWhile_append_of_pos (fun a ha => List.all_eq_true.1 hx a ha)]
  rcases h with rfl | ⟨c, t, rfl, hc⟩
  · simp
  · have : p c = false := by rcases hc with rfl | rfl | rfl <;> assumption
    rw [List.takeWhile_cons, this]; simp
theorem tk_sign {c : UInt8} (h : signsB.contains c = true) (r : List UInt8) : Tk [c] r := ⟨by simp, by rw [List.singleton_append, longB, if_pos h]; rfl⟩
theorem word_no {c : UInt8} (h : 97 ≤ c.toNat ∧ c.toNat ≤ 122) : signsB.contains c = false := by
  revert h
  refine u8_all (p := fun c => (97 ≤ c.toNat ∧ c.toNat ≤ 122) → signsB.contains c = false) ?_ c
  decide +kernel
theorem tk_word {c : UInt8} {x r : List UInt8} (hc : 97 ≤ c.toNat ∧ c.toNat ≤ 122) (hx : x.all letterB = true) (hl : x.length < 32) (hr : Stop r) : Tk (c :: x) r := by
  refine ⟨by simp, ?_⟩
  have h1 := word_no hc
  have h2 : (x ++ r).takeWhile letterB = x := hr.tw (by decide) (by decide) (by decide) x hx
  rw [List.cons_append, longB, if_neg (by rw [h1]; decide), if_neg (by omega), if_neg (by rintro rfl; exact absurd hc.1 (by decide)), if_pos hc, h2, if_pos (by omega), List.length_cons]
theorem tk_digits {c : UInt8} {x r : List UInt8} (hc : 49 ≤ c.toNat ∧ c.toNat ≤ 57) (hx : x.all digitB = true) (hv : spell 0 (c :: x) ≤ 9223372036854775807) (hr : Stop r) : Tk (c :: x) r := by
  refine ⟨by simp, ?_⟩
  have h1 : signsB.contains c = false := by
    revert hc
    refine u8_all (p := fun c => (49 ≤ c.toNat ∧ c.toNat ≤ 57) → signsB.contains c = false) ?_ c
    decide +kernel
  have h2 : (x ++ r).takeWhile digitB = x := hr.tw (by decide) (by decide) (by decide) x hx
  rw [List.cons_append, longB, if_neg (by rw [h1]; decide), if_pos hc, h2, if_pos hv, List.length_cons]
theorem tk_quote {x r : List UInt8} (hx : x.all quotB = true) : Tk (39 :: (x ++ [39])) r := by
  refine ⟨by simp, ?_⟩
  have hq : ∀ a ∈ x, (a != 39) = true := fun a ha => by
    have := List.all_eq_true.1 hx a ha
    simp only [quotB, Bool.and_eq_true] at this
    exact this.2
  have h2 : (x ++ [39] ++ r).takeWhile (· != 39) = x := by
    rw [List.append_assoc, List.takeWhile_append_of_pos hq]; simp
  rw [List.cons_append, longB, if_neg (by decide), if_neg (by decide), if_pos rfl, h2, if_pos ⟨by simp, hx⟩]
  simp
end Go.Proofs.YtkmgbkcpjlilpaaDoor
