/- What reading a text answers. A guard's text, and that it is read as the guard: plain. docketref16.Int of digits. What is read as a guard may be, and is not much longer written; plain. -/
import Derived.Test.YtfbbkmdhnkmonaaGreatDoorS06
import Derived.Test.YtfbbkmdhnkmonaaGreatDoorS25
import Derived.Test.YtfbbkmdhnkmonaaGreatDoorS03
namespace Go.Proofs.YtfbbkmdhnkmonaaGreatDoor
open Go.RowKit

abbrev zeroD : GD := .node 0 0 ⟨#[]⟩ []
theorem zero_gin (w : World) : GIn w zeroD zeroG := .mk 0 0 ⟨#[]⟩ [] none 0 0 0 (fun _ => []) (by simp) (Nat.le_refl _) (fun h => absurd h (by simp)) (fun m h => absurd h (by simp)) (fun m h => absurd h (by simp))
/-- what reading a text answers -/
def ReadA (s : ByteArray) (g : GD) (a c : Int) : Prop :=
  if 16384 < s.size then g = zeroD ∧ a = 0 ∧ c = 3
  else ∃ fu r, readG s fu = some r ∧ match r with
    | .ok t => g = t.toGD ∧ a = 0 ∧ c = 0
    | .error (p, q) => g = zeroD ∧ a = (p : Int) ∧ c = q
theorem ReadA.unique {s : ByteArray} {g g' : GD} {a a' c c' : Int} (h : ReadA s g a c) (h' : ReadA s g' a' c') : g = g' ∧ a = a' ∧ c = c' := by
  unfold ReadA at h h'
  split at h
  · rename_i hb
    rw [if_pos hb] at h'
    obtain ⟨rfl, rfl, rfl⟩ := h
    obtain ⟨rfl, rfl, rfl⟩ := h'
    exact ⟨rfl, rfl, rfl⟩
  · rename_i hb
    rw [if_neg hb] at h'
    obtain ⟨fu, r, h1, h2⟩ := h
    obtain ⟨fu', r', h1', h2'⟩ := h'
    obtain rfl := readG_fun h1 h1'
    cases r with
    | ok t =>
      obtain ⟨rfl, rfl, rfl⟩ := h2
      obtain ⟨rfl, rfl, rfl⟩ := h2'
      exact ⟨rfl, rfl, rfl⟩
    | error p =>
      obtain ⟨rfl, rfl, rfl⟩ := h2
      obtain ⟨rfl, rfl, rfl⟩ := h2'
      exact ⟨rfl, rfl, rfl⟩
theorem readG_deepLe {s : ByteArray} {f : Nat} {t : GT} (h : readG s f = some (.ok t)) : t.deep ≤ 32 := by
  unfold readG at h
  split at h
  · cases h
  · split at h
    · cases h
    · cases h
    · split at h
      · cases h
      · split at h
        · cases h
        · rename_i h32
          injection h with h; injection h with h; subst h
          omega
theorem ReadA.deep {s : ByteArray} {g : GD} {a c : Int} (h : ReadA s g a c) : g.deep ≤ 32 := by
  unfold ReadA at h
  split at h
  · obtain ⟨rfl, -⟩ := h; decide
  · obtain ⟨fu, r, h1, h2⟩ := h
    cases r with
    | ok t => obtain ⟨rfl, -⟩ := h2; rw [toGD_deep]; exact readG_deepLe h1
    | error p => obtain ⟨rfl, -⟩ := h2; decide
theorem ReadEnd.answer {s : ByteArray} {w w' : World} {e : Ending} (h : ReadEnd s w e w') : Below w.heap.size w w' ∧ ∃ g a c cs, e = .returned (.tuple #[.agg (List.toArray cs), .int .i64 a, .int .i64 c]) ∧ GIn w' g cs ∧ ReadA s g a c := by
  obtain ⟨hb, h⟩ := h
  refine ⟨hb, ?_⟩
  unfold ReadA
  split at h
  · rename_i hbig
    exact ⟨zeroD, 0, 3, zeroG, h, zero_gin _, by rw [if_pos hbig]; exact ⟨rfl, rfl, rfl⟩⟩
  · rename_i hbig
    obtain ⟨fu, r, h1, h2⟩ := h
    cases r with
    | ok t =>
      obtain ⟨cs, rfl, h3⟩ := h2
      exact ⟨t.toGD, 0, 0, cs, rfl, h3.gin, by rw [if_neg hbig]; exact ⟨fu, _, h1, rfl, rfl, rfl⟩⟩
    | error p =>
      obtain ⟨p, q⟩ := p
      exact ⟨zeroD, p, q, zeroG, h2, zero_gin _, by rw [if_neg hbig]; exact ⟨fu, _, h1, rfl, rfl, rfl⟩⟩
end Go.Proofs.YtfbbkmdhnkmonaaGreatDoor

namespace Go.Proofs.YtfbbkmdhnkmonaaGreatDoor
open Go.RowKit

def GT.isLeaf : GT → Bool
  | .leaf .. => true
  | _ => false
def wrapT (l : Bool) (t : List UInt8) : List UInt8 := if l then t else 40 :: (t ++ [41])
def opT : Nat → List UInt8
  | 9 => [97, 110, 100]
  | 10 => [111, 114]
  | 11 => [61]
  | 12 => [60]
  | 13 => [43]
  | 14 => [45]
  | _ => [42]
def leafT (k : Nat) (n : Int) (s : ByteArray) : List UInt8 := match k with
  | 1 => [116, 114, 117, 101]
  | 2 => [102, 97, 108, 115, 101]
  | 3 => Lib.decDigits n.toNat
  | 4 => 39 :: (s.data.toList ++ [39])
  | 6 => [111, 112, 101, 110, 40] ++ (s.data.toList ++ [41])
  | 7 => [100, 111, 110, 101, 40] ++ (s.data.toList ++ [41])
  | _ => s.data.toList
def GT.txt : GT → List UInt8
  | .leaf k n s => leafT k n s
  | .one _ a => [110, 111, 116, 32] ++ wrapT a.isLeaf a.txt
  | .two k a b => wrapT a.isLeaf a.txt ++ 32 :: (opT k ++ 32 :: wrapT b.isLeaf b.txt)
abbrev GT.kid (t : GT) : List UInt8 := wrapT t.isLeaf t.txt
/-- may a guard be? -/
def GT.may : GT → Prop
  | .leaf k n s => ((k = 1 ∨ k = 2) ∧ n = 0 ∧ s = ⟨#[]⟩) ∨ (k = 3 ∧ 0 ≤ n ∧ n ≤ 9223372036854775807 ∧ s = ⟨#[]⟩) ∨ (k = 4 ∧ n = 0 ∧ s.data.toList.all quotB = true) ∨ ((k = 5 ∨ k = 6 ∨ k = 7) ∧ n = 0 ∧ namedG s = true)
  | .one k a => k = 8 ∧ a.may
  | .two k a b => (9 ≤ k ∧ k ≤ 15) ∧ a.may ∧ b.may

/-! A state that stands at a list of bytes. -/
structure AtL (s : ByteArray) (st : GSt) (l : List UInt8) : Prop where
  pos : st.pos ≤ s.size
  drop : s.data.toList.drop st.pos = l
  i : st.i = st.pos + longB l
  now : st.now.data.toList = l.take (longB l)
  good : l = [] ∨ 0 < longB l
def Good (l : List UInt8) : Prop := l = [] ∨ 0 < longB l
def bl (l : List UInt8) : List UInt8 := l.dropWhile (· == 32)
theorem drop_tw (l : List UInt8) : l.drop (l.takeWhile (· == 32)).length = bl l := by
  unfold bl
  induction l with
  | nil => rfl
  | cons c r ih =>
    by_cases h : (c == 32) = true
    · rw [List.takeWhile_cons, List.dropWhile_cons, if_pos h, if_pos h, List.length_cons, List.drop_succ_cons, ih]
    · rw [List.takeWhile_cons, List.dropWhile_cons, if_neg h, if_neg h]; rfl
theorem from_drop (s : ByteArray) (i : Nat) : s.data.toList.drop (fromB s i) = bl (s.data.toList.drop i) := by
  rw [← drop_tw, List.drop_drop]; rfl
/-- a step, to what stands behind the blanks -/
theorem step_at {s : ByteArray} {i : Nat} (hi : i ≤ s.size) (hg : Good (bl (s.data.toList.drop i))) : ∃ st, stepB s i = .ok st ∧ AtL s st (bl (s.data.toList.drop i)) := by
  have h1 := from_drop s i
  have h2 := fromB_le s hi
  have h3 := longB_le (bl (s.data.toList.drop i))
  have hlen : (bl (s.data.toList.drop i)).length = s.size - fromB s i := by rw [← h1, List.length_drop, ba_len]
  by_cases he : fromB s i = s.size
  · have hnil : bl (s.data.toList.drop i) = [] := List.eq_nil_of_length_eq_zero (by rw [hlen]; omega)
    refine ⟨⟨fromB s i, fromB s i, ⟨#[]⟩⟩, by unfold stepB; rw [if_pos he], ?_⟩
    rw [hnil]
    exact ⟨h2, by rw [h1, hnil], rfl, rfl, .inl rfl⟩
  · have hne : bl (s.data.toList.drop i) ≠ [] := fun h => by rw [h] at hlen; simp at hlen; omega
    have hp : 0 < longB (bl (s.data.toList.drop i)) := hg.resolve_left hne
    refine ⟨⟨fromB s i + longB (bl (s.data.toList.drop i)), fromB s i, s.extract (fromB s i) (fromB s i + longB (bl (s.data.toList.drop i)))⟩, by unfold stepB; rw [if_neg he, h1, if_neg (by omega)], ?_⟩
    refine ⟨h2, h1, rfl, ?_, .inr hp⟩
    simp only [ByteArray.data_extract, Array.toList_extract]
    show (s.data.toList.drop (fromB s i)).take (fromB s i + longB (bl (s.data.toList.drop i)) - fromB s i) = _
    rw [h1, Nat.add_sub_cancel_left]
theorem AtL.le {s : ByteArray} {st : GSt} {l : List UInt8} (h : AtL s st l) : st.i ≤ s.size := by
  have h1 := longB_le l
  have h2 : l.length = s.size - st.pos := by rw [← h.drop, List.length_drop, ba_len]
  have := h.pos
  rw [h.i]; omega
theorem AtL.rest {s : ByteArray} {st : GSt} {l : List UInt8} (h : AtL s st l) : s.data.toList.drop st.i = l.drop (longB l) := by
  rw [h.i, ← h.drop, List.drop_drop]
/-- a token, and what is behind it -/
structure Tk (x r : List UInt8) : Prop where
  pos : 0 < x.length
  long : longB (x ++ r) = x.length
theorem AtL.now_eq {s : ByteArray} {st : GSt} {x r : List UInt8} (h : AtL s st (x ++ r)) (ht : Tk x r) : st.now = ⟨x.toArray⟩ := by
  have := h.now
  rw [ht.long, List.take_left] at this
  exact ByteArray.ext (by rw [← this])
theorem AtL.next {s : ByteArray} {st : GSt} {x r : List UInt8} (h : AtL s st (x ++ r)) (ht : Tk x r) (hg : Good (bl r)) : ∃ st', stepB s st.i = .ok st' ∧ AtL s st' (bl r) := by
  have h1 := h.rest
  rw [ht.long, List.drop_left] at h1
  have h2 := step_at h.le (by rw [h1]; exact hg)
  rwa [h1] at h2
theorem AtL.now_nil {s : ByteArray} {st : GSt} (h : AtL s st []) : st.now = ⟨#[]⟩ := by
  have := h.now
  exact ByteArray.ext (Array.ext' (by rw [this]; rfl))

/-! Tokens. -/
/-- what may stand behind a word -/
def Stop (r : List UInt8) : Prop := r = [] ∨ ∃ c t, r = c :: t ∧ (c = 32 ∨ c = 40 ∨ c = 41)
theorem Stop.tw {r : List UInt8} (h : Stop r) {p : UInt8 → Bool} (h1 : p 32 = false) (h2 : p 40 = false) (h3 : p 41 = false) (x : List UInt8) (hx : x.all p = true) : (x ++ r).takeWhile p = x := by
  rw [List.takeWhile_append_of_pos (fun a ha => List.all_eq_true.1 hx a ha)]
  rcases h with rfl | ⟨c, t, rfl, hc⟩
  · simp
  · have : p c = false := by rcases hc with rfl | rfl | rfl <;> assumption
    rw [List.takeWhile_cons, this]; simp
theorem tk_sign {c : UInt8} (h : signsB.contains c = true) (r : List UInt8) : Tk [c] r := ⟨by simp, by rw [List.singleton_append, longB, if_pos h]; rfl⟩
theorem word_no {c : UInt8} (h : 97 ≤ c.toNat ∧ c.toNat ≤ 122) : signsB.contains c = false := by
  revert h
  refine u8_all (p := fun c => (97 ≤ c.toNat ∧ c.toNat ≤ 122) → signsB.contains c = false) ?_ c
  decide +kernel
theorem tk_word {c : UInt8} {x r : List UInt8} (hc : 97 ≤ c.toNat ∧ c.toNat ≤ 122) (hx : x.all letterB = true) (hl : x.length < 32) (hr : Stop r) : Tk (c :: x) r := by
  refine ⟨by simp, ?_⟩
  have h1 := word_no hc
  have h2 : (x ++ r).takeWhile letterB = x := hr.tw (by decide) (by decide) (by decide) x hx
  rw [List.cons_append, longB, if_neg (by rw [h1]; decide), if_neg (by omega), if_neg (by rintro rfl; exact absurd hc.1 (by decide)), if_pos hc, h2, if_pos (by omega), List.length_cons]
theorem tk_digits {c : UInt8} {x r : List UInt8} (hc : 49 ≤ c.toNat ∧ c.toNat ≤ 57) (hx : x.all digitB = true) (hv : spell 0 (c :: x) ≤ 9223372036854775807) (hr : Stop r) : Tk (c :: x) r := by
  refine ⟨by simp, ?_⟩
  have h1 : signsB.contains c = false := by
    revert hc
    refine u8_all (p := fun c => (49 ≤ c.toNat ∧ c.toNat ≤ 57) → signsB.contains c = false) ?_ c
    decide +kernel
  have h2 : (x ++ r).takeWhile digitB = x := hr.tw (by decide) (by decide) (by decide) x hx
  rw [List.cons_append, longB, if_neg (by rw [h1]; decide), if_pos hc, h2, if_pos hv, List.length_cons]
theorem tk_quote {x r : List UInt8} (hx : x.all quotB = true) : Tk (39 :: (x ++ [39])) r := by
  refine ⟨by simp, ?_⟩
  have hq : ∀ a ∈ x, (a != 39) = true := fun a ha => by
    have := List.all_eq_true.1 hx a ha
    simp only [quotB, Bool.and_eq_true] at this
    exact this.2
  have h2 : (x ++ [39] ++ r).takeWhile (· != 39) = x := by
    rw [List.append_assoc, List.takeWhile_append_of_pos hq]; simp
  rw [List.cons_append, longB, if_neg (by decide), if_neg (by decide), if_pos rfl, h2, if_pos ⟨by simp, hx⟩]
  simp
end Go.Proofs.YtfbbkmdhnkmonaaGreatDoor

namespace Go.Proofs.YtfbbkmdhnkmonaaGreatDoor
open Go.RowKit

theorem spell_ltG (l : List UInt8) : ∀ acc : Nat, l.all digitB = true → spell acc l < (acc + 1) * 10 ^ l.length := by
  induction l with
  | nil =>
    intro acc _
    show acc < (acc + 1) * 10 ^ 0
    rw [Nat.pow_zero]
    omega
  | cons c r ih =>
    intro acc h
    simp only [List.all_cons, Bool.and_eq_true] at h
    have hc := h.1
    simp only [digitB, decide_eq_true_eq] at hc
    have h1 := ih (acc * 10 + (c.toNat - 48)) h.2
    have h2 : (acc * 10 + (c.toNat - 48) + 1) * 10 ^ r.length ≤ ((acc + 1) * 10) * 10 ^ r.length := Nat.mul_le_mul_right _ (by omega)
    have h3 : ((acc + 1) * 10) * 10 ^ r.length = (acc + 1) * 10 ^ (r.length + 1) := by rw [Nat.pow_succ, Nat.mul_comm (10 ^ r.length) 10, Nat.mul_assoc]
    have h4 : spell acc (c :: r) = spell (acc * 10 + (c.toNat - 48)) r := rfl
    rw [h4, List.length_cons, ← h3]
    exact Nat.lt_of_lt_of_le h1 h2
theorem spell_geG (l : List UInt8) : ∀ acc : Nat, acc * 10 ^ l.length ≤ spell acc l := by
  induction l with
  | nil =>
    intro acc
    show acc * 10 ^ 0 ≤ acc
    rw [Nat.pow_zero]
    omega
  | cons c r ih =>
    intro acc
    have h1 := ih (acc * 10 + (c.toNat - 48))
    have h2 : (acc * 10) * 10 ^ r.length ≤ (acc * 10 + (c.toNat - 48)) * 10 ^ r.length := Nat.mul_le_mul_right _ (by omega)
    have h3 : (acc * 10) * 10 ^ r.length = acc * 10 ^ (r.length + 1) := by rw [Nat.pow_succ, Nat.mul_comm (10 ^ r.length) 10, Nat.mul_assoc]
    have h4 : spell acc (c :: r) = spell (acc * 10 + (c.toNat - 48)) r := rfl
    rw [h4, List.length_cons, ← h3]
    exact Nat.le_trans h2 h1
/-- twenty digits that do not begin with nought are too great -/
theorem spell_great {l : List UInt8} (hh : 49 ≤ (l.headD 0).toNat) (hl : 19 < l.length) : 9223372036854775807 < spell 0 l := by
  cases l with
  | nil => simp at hl
  | cons c r =>
    have hc : 49 ≤ c.toNat := hh
    have h1 := spell_geG r (0 * 10 + (c.toNat - 48))
    have h2 : 10 ^ 19 ≤ 10 ^ r.length := Nat.pow_le_pow_right (by omega) (by simp only [List.length_cons] at hl; omega)
    have h3 : 1 * 10 ^ r.length ≤ (0 * 10 + (c.toNat - 48)) * 10 ^ r.length := Nat.mul_le_mul_right _ (by omega)
    have h4 : spell 0 (c :: r) = spell (0 * 10 + (c.toNat - 48)) r := rfl
    omega
theorem spell_small {l : List UInt8} (hd : l.all digitB = true) (hl : l.length < 19) : spell 0 l ≤ 9223372036854775807 := by
  have h1 := spell_ltG l 0 hd
  have h2 : 10 ^ l.length ≤ 10 ^ 18 := Nat.pow_le_pow_right (by omega) (by omega)
  omega
theorem spell_nil (a : Nat) : spell a [] = a := id rfl
theorem spell_cons (a : Nat) (c : UInt8) (l : List UInt8) : spell a (c :: l) = spell (a * 10 + (c.toNat - 48)) l := id rfl
theorem spell_up (l : List UInt8) : ∀ (m : List UInt8) (a b : Nat), l.length = m.length → l.all digitB = true → m.all digitB = true → a < b → spell a l < spell b m := by
  induction l with
  | nil =>
    intro m a b h _ _ hab
    cases m with
    | nil => rw [spell_nil, spell_nil]; exact hab
    | cons d m => simp at h
  | cons c l ih =>
    intro m a b h hl hm hab
    cases m with
    | nil => simp at h
    | cons d m =>
      simp only [List.all_cons, Bool.and_eq_true] at hl hm
      have hc := hl.1
      have hd := hm.1
      simp only [digitB, decide_eq_true_eq] at hc hd
      have hlen : l.length = m.length := by simpa using h
      rw [spell_cons, spell_cons]
      exact ih m _ _ hlen hl.2 hm.2 (by omega)
/-- of as many digits the order of bytes is that of numbers -/
theorem spell_less (l : List UInt8) : ∀ (m : List UInt8) (a : Nat), l.length = m.length → l.all digitB = true → m.all digitB = true →
    ((Op.bytesLess l m = true ↔ spell a l < spell a m) ∧ (l = m ↔ spell a l = spell a m)) := by
  induction l with
  | nil =>
    intro m a h _ _
    cases m with
    | nil =>
      have h : Op.bytesLess [] [] = false := rfl
      rw [h, spell_nil]
      exact ⟨⟨fun h => (Bool.noConfusion h), fun h => absurd h (Nat.lt_irrefl _)⟩, ⟨fun _ => rfl, fun _ => rfl⟩⟩
    | cons d m => simp at h
  | cons c l ih =>
    intro m a h hl hm
    cases m with
    | nil => simp at h
    | cons d m =>
      simp only [List.all_cons, Bool.and_eq_true] at hl hm
      have hc := hl.1
      have hd := hm.1
      simp only [digitB, decide_eq_true_eq] at hc hd
      have hlen : l.length = m.length := by simpa using h
      rw [spell_cons, spell_cons]
      have e : Op.bytesLess (c :: l) (d :: m) = (decide (c < d) || (c == d && Op.bytesLess l m)) := rfl
      rw [e]
      rcases Nat.lt_trichotomy c.toNat d.toNat with hcd | hcd | hcd
      · have h3 := spell_up l m (a * 10 + (c.toNat - 48)) (a * 10 + (d.toNat - 48)) hlen hl.2 hm.2 (by omega)
        have h4 : c < d := hcd
        refine ⟨⟨fun _ => h3, fun _ => (by rw [decide_eq_true h4]; rfl)⟩, ⟨fun he => ?_, fun he => absurd he (Nat.ne_of_lt h3)⟩⟩
        injection he with e1 e2
        subst e1
        omega
      · have h4 : c = d := UInt8.toNat_inj.1 hcd
        subst h4
        have h3 := ih m (a * 10 + (c.toNat - 48)) hlen hl.2 hm.2
        have h5 : ¬ c < c := fun hlt => Nat.lt_irrefl _ (show c.toNat < c.toNat from hlt)
        rw [decide_eq_false h5, Bool.false_or, beq_self_eq_true, Bool.true_and, ← h3.2]
        exact ⟨h3.1, ⟨fun he => (List.cons.inj he).2, fun he => (by rw [he])⟩⟩
      · have h3 := spell_up m l (a * 10 + (d.toNat - 48)) (a * 10 + (c.toNat - 48)) hlen.symm hm.2 hl.2 (by omega)
        have h4 : ¬ c < d := fun hlt => (by have hlt' : c.toNat < d.toNat := hlt; omega)
        have h5 : ¬ c = d := fun he => (by subst he; omega)
        rw [decide_eq_false h4, beq_eq_false_iff_ne.2 h5, Bool.false_and, Bool.false_or]
        exact ⟨⟨fun h => (Bool.noConfusion h), fun h => absurd h (Nat.not_lt.2 (Nat.le_of_lt h3))⟩, ⟨fun he => absurd (List.cons.inj he).1 h5, fun he => absurd he.symm (Nat.ne_of_lt h3)⟩⟩
abbrev leastS : List UInt8 := [57, 50, 50, 51, 51, 55, 50, 48, 51, 54, 56, 53, 52, 55, 55, 53, 56, 48, 55]
theorem spell_least : spell 0 leastS = 9223372036854775807 := by decide +kernel
theorem least_gt {l : List UInt8} (hl : l.length = 19) (hd : l.all digitB = true) : (Op.bytesLess l leastS || l == leastS) = decide (spell 0 l ≤ 9223372036854775807) := by
  have h := spell_less l leastS 0 (by rw [hl]; rfl) hd (by decide +kernel)
  rw [spell_least] at h
  rw [Bool.eq_iff_iff, Bool.or_eq_true, h.1, beq_iff_eq, h.2, decide_eq_true_eq]
  omega
theorem spell_snocG {s : ByteArray} {k : Nat} (h : k < s.size) : spell 0 (s.data.toList.take (k + 1)) = spell 0 (s.data.toList.take k) * 10 + (s[k].toNat - 48) := by
  rw [take_snoc s k h, spell_append]; rfl
theorem spell_mono (s : ByteArray) (k : Nat) : spell 0 (s.data.toList.take k) ≤ spell 0 s.data.toList := by
  have h := spell_append (s.data.toList.drop k) (s.data.toList.take k) 0
  rw [List.take_append_drop] at h
  rw [h]
  exact spell_ge _ _
end Go.Proofs.YtfbbkmdhnkmonaaGreatDoor

namespace Go.Proofs.YtfbbkmdhnkmonaaGreatDoor
open Go.RowKit

structure GSz (s : ByteArray) (st : GSt) : Prop where
  le : st.i ≤ s.size
  eq : st.i = st.pos + st.now.size
  tok : TokOk st.now
theorem step_gz {s : ByteArray} {i : Nat} {st : GSt} (hi : i ≤ s.size) (h : stepB s i = .ok st) : GSz s st ∧ i ≤ st.pos := by
  obtain ⟨hg, hp⟩ := step_gs hi h
  refine ⟨⟨hg.le, ?_, hg.tok⟩, hp⟩
  obtain ⟨_, _, h3, _, h5⟩ := stepB_ok hi h
  rcases h5 with h5 | h5
  · unfold stepB at h
    split at h
    · injection h with h; subst h; rfl
    · split at h
      · cases h
      · rename_i h0 h1
        injection h with h; subst h
        simp only [ByteArray.size_extract] at h5
        have h3 := longB_le (s.data.toList.drop (fromB s i))
        rw [List.length_drop, ba_len] at h3
        omega
  · omega
theorem step_err {s : ByteArray} {i a : Nat} (hi : i ≤ s.size) (h : stepB s i = .error a) : a ≤ s.size := by
  have := fromB_le s hi
  unfold stepB at h
  split at h
  · cases h
  · split at h
    · injection h with h; omega
    · cases h
/-- what a part of the grammar comes to -/
def MR (s : ByteArray) (p0 : Nat) : Except Nat (GT × GSt) → Prop
  | .ok (g, st1) => GSz s st1 ∧ g.may ∧ g.kid.length + 5 * p0 ≤ 5 * st1.pos ∧ g.toGD.size + 3 * p0 ≤ 3 * st1.pos
  | .error a => a ≤ s.size
def MP (s : ByteArray) (p : GSt → PR) : Prop := ∀ st x, GSz s st → p st = some x → MR s st.pos x
def KindsOk (kinds : ByteArray → Option Nat) : Prop := ∀ x k, kinds x = some k → (9 ≤ k ∧ k ≤ 15) ∧ x.data.toList = opT k
theorem opT_pos (k : Nat) : 1 ≤ (opT k).length := by unfold opT; split <;> simp
theorem kinds_ok : KindsOk kOr ∧ KindsOk kAnd ∧ KindsOk kRel ∧ KindsOk kSum ∧ KindsOk kMul := by
  refine ⟨fun x k h => ?_, fun x k h => ?_, fun x k h => ?_, fun x k h => ?_, fun x k h => ?_⟩
  · unfold kOr at h; split at h
    · rename_i hx; subst hx; injection h with h; subst h; exact ⟨by omega, rfl⟩
    · cases h
  · unfold kAnd at h; split at h
    · rename_i hx; subst hx; injection h with h; subst h; exact ⟨by omega, rfl⟩
    · cases h
  · unfold kRel at h; split at h
    · rename_i hx; subst hx; injection h with h; subst h; exact ⟨by omega, rfl⟩
    · split at h
      · rename_i hx; subst hx; injection h with h; subst h; exact ⟨by omega, rfl⟩
      · cases h
  · unfold kSum at h; split at h
    · rename_i hx; subst hx; injection h with h; subst h; exact ⟨by omega, rfl⟩
    · split at h
      · rename_i hx; subst hx; injection h with h; subst h; exact ⟨by omega, rfl⟩
      · cases h
  · unfold kMul at h; split at h
    · rename_i hx; subst hx; injection h with h; subst h; exact ⟨by omega, rfl⟩
    · cases h
theorem two_kid (k : Nat) (g h : GT) : (GT.two k g h).kid.length = g.kid.length + h.kid.length + (opT k).length + 4 := by
  show (wrapT false _).length = _
  simp [wrapT, GT.txt]
  omega
theorem one_kid (k : Nat) (g : GT) : (GT.one k g).kid.length = g.kid.length + 6 := by
  show (wrapT false _).length = _
  simp [wrapT, GT.txt]
theorem join_mr {s : ByteArray} {p0 k : Nat} {g h : GT} {st st1 st2 : GSt} (hk : 9 ≤ k ∧ k ≤ 15) (hn : st.now.data.toList = opT k) (hz : GSz s st) (hg : g.may) (h1 : g.kid.length + 5 * p0 ≤ 5 * st.pos) (h2 : g.toGD.size + 3 * p0 ≤ 3 * st.pos) (hs : st.i ≤ st1.pos) (hm : MR s st1.pos (.ok (h, st2))) : MR s p0 (.ok (.two k g h, st2)) := by
  obtain ⟨q1, q2, q3, q4⟩ := hm
  have hl : st.now.size = (opT k).length := by rw [← ba_len, hn]
  have ho := opT_pos k
  have he := hz.eq
  refine ⟨q1, ⟨hk, hg, q2⟩, ?_, ?_⟩
  · rw [two_kid]; omega
  · simp only [GT.toGD, GD.size, GD.sizes]
    show 1 + 0 + _ + _ ≤ _
    omega
theorem rowL_mr {s : ByteArray} {one : GSt → PR} (hone : MP s one) {kinds : ByteArray → Option Nat} (hk : KindsOk kinds) (p0 : Nat) : ∀ (f : Nat) (g : GT) (st : GSt) (x : Except Nat (GT × GSt)), MR s p0 (.ok (g, st)) → rowL s one kinds f g st = some x → MR s p0 x
  | 0, _, _, _, _, h => by cases h
  | f + 1, g, st, x, hm, h => by
    rw [rowL] at h
    cases hkd : kinds st.now with
    | none => rw [hkd] at h; injection h with h; subst h; exact hm
    | some k =>
      rw [hkd] at h
      simp only at h
      obtain ⟨q1, q2, q3, q4⟩ := hm
      cases hs : stepB s st.i with
      | error a => rw [hs] at h; injection h with h; subst h; exact step_err q1.le hs
      | ok st1 =>
        rw [hs] at h
        simp only at h
        obtain ⟨g1, p1⟩ := step_gz q1.le hs
        cases ho : one st1 with
        | none => rw [ho] at h; cases h
        | some y =>
          have hy := hone _ _ g1 ho
          rw [ho] at h
          cases y with
          | error a => simp only at h; injection h with h; subst h; exact hy
          | ok z =>
            obtain ⟨h2, st2⟩ := z
            obtain ⟨k1, k2⟩ := hk _ _ hkd
            exact rowL_mr hone hk p0 f _ _ _ (join_mr k1 k2 q1 q2 q3 q4 p1 hy) h
theorem thenP_mr {s : ByteArray} {r : PR} {k : GT → GSt → PR} {p0 : Nat} {x : Except Nat (GT × GSt)} (h : thenP r k = some x) (hr : ∀ y, r = some y → MR s p0 y) (hk : ∀ g st, MR s p0 (.ok (g, st)) → k g st = some x → MR s p0 x) : MR s p0 x := by
  rcases thenP_some h with ⟨a, h1, rfl⟩ | ⟨g, st, h1, h2⟩
  · exact hr _ h1
  · exact hk g st (hr _ h1) h2
/-- a leaf out of one token -/
theorem leaf_mr {s : ByteArray} {st : GSt} {x : Except Nat (GT × GSt)} {k : Nat} {n : Int} {t : ByteArray} (hz : GSz s st) (hm : (GT.leaf k n t).may) (hl : (leafT k n t).length ≤ 5 * st.now.size) (ht : 1 + t.size ≤ 3 * st.now.size) (h : thenS (stepB s st.i) (fun st1 => some (.ok (.leaf k n t, st1))) = some x) : MR s st.pos x := by
  cases hs : stepB s st.i with
  | error a => rw [hs] at h; injection h with h; subst h; exact step_err hz.le hs
  | ok st1 =>
    rw [hs] at h
    injection h with h; subst h
    obtain ⟨g1, p1⟩ := step_gz hz.le hs
    have he := hz.eq
    refine ⟨g1, hm, ?_, ?_⟩
    · show (leafT k n t).length + _ ≤ _
      omega
    · simp only [GT.toGD, GD.size, GD.sizes]
      omega
theorem dec_len {l : List UInt8} (hne : l ≠ []) (hd : l.all digitB = true) : (Lib.decDigits (spell 0 l)).length ≤ l.length := by
  have h1 := spell_ltG l 0 hd
  have hpos : 0 < l.length := List.length_pos_iff.2 hne
  obtain ⟨m, hm⟩ : ∃ m, l.length = m + 1 := ⟨l.length - 1, by omega⟩
  rw [Lib.decDigits_length, hm]
  rw [hm] at h1
  exact nd_le m _ (by omega)
/-- a quoted token is of bytes that may be quoted -/
theorem tok_quoted {now : ByteArray} (h : TokOk now) (h0 : 0 < now.size) (hd : now.data.toList.headD 0 = 39) : 2 ≤ now.size ∧ ((now.extract 1 (now.size - 1)).data.toList).all quotB = true ∧ (now.extract 1 (now.size - 1)).size + 2 = now.size := by
  have h2 := tok_quote h h0 hd
  refine ⟨h2, ?_, by rw [ByteArray.size_extract]; omega⟩
  rcases h with h | ⟨l, hl, hlo⟩
  · omega
  · match l, hl, hlo with
    | [], _, hlo => exact absurd hlo (by decide)
    | c :: r, hl, hlo =>
      have hc : c = 39 := by
        rw [hl] at hd
        obtain ⟨m, hm⟩ : ∃ m, longB (c :: r) = m + 1 := ⟨longB (c :: r) - 1, by omega⟩
        rw [hm] at hd
        exact hd
      subst hc
      have hlen := congrArg List.length hl
      rw [ba_len, List.length_take] at hlen
      have hle := longB_le (39 :: r)
      rw [longB, if_neg (by decide), if_neg (by decide), if_pos rfl] at hlo hlen hle hl
      split at hlo
      · rename_i hx
        rw [if_pos hx] at hlen hl hle
        simp only [ByteArray.data_extract, Array.toList_extract]
        show ((now.data.toList.drop 1).take (now.size - 1 - 1)).all quotB = true
        rw [hl]
        have ht : ((39 :: r).take ((r.takeWhile (· != 39)).length + 2)).drop 1 = r.take ((r.takeWhile (· != 39)).length + 1) := rfl
        rw [ht, List.take_take, show min (now.size - 1 - 1) ((r.takeWhile (· != 39)).length + 1) = (r.takeWhile (· != 39)).length by omega, take_takeWhile]
        exact hx.2
      · omega
theorem name_mr {s : ByteArray} {st : GSt} {x : Except Nat (GT × GSt)} (hz : GSz s st) (h : thenS (if namedG st.now = true then stepB s st.i else .error st.pos) (fun st1 => some (.ok (.leaf 5 0 st.now, st1))) = some x) : MR s st.pos x := by
  by_cases hn : namedG st.now = true
  · rw [if_pos hn] at h
    have h0 : 0 < st.now.size := by
      unfold namedG at hn
      simp only [Bool.and_eq_true, decide_eq_true_eq] at hn
      exact hn.1.1.1.1
    exact leaf_mr hz (.inr (.inr (.inr ⟨.inl rfl, rfl, hn⟩))) (by show st.now.data.toList.length ≤ _; rw [ba_len]; omega) (by omega) h
  · rw [if_neg hn] at h
    injection h with h; subst h
    have := hz.eq; have := hz.le
    show st.pos ≤ s.size
    omega
theorem thenS_mr {s : ByteArray} {r : Except Nat GSt} {k : GSt → PR} {p0 : Nat} {x : Except Nat (GT × GSt)} (h : thenS r k = some x) (he : ∀ a, r = .error a → a ≤ s.size) (hk : ∀ st, r = .ok st → k st = some x → MR s p0 x) : MR s p0 x := by
  cases r with
  | error a => injection h with h; subst h; exact he a rfl
  | ok st => exact hk st rfl h
theorem need_gz {s x : ByteArray} {st st' : GSt} (hz : GSz s st) (h : needB s x st = .ok st') : GSz s st' ∧ st.i ≤ st'.pos ∧ st.now = x := by
  unfold needB at h
  split at h
  · rename_i hx
    have := step_gz hz.le h
    exact ⟨this.1, this.2, hx⟩
  · cases h
theorem need_errB {s x : ByteArray} {st : GSt} {a : Nat} (hz : GSz s st) (h : needB s x st = .error a) : a ≤ s.size := by
  unfold needB at h
  split at h
  · exact step_err hz.le h
  · injection h with h; have := hz.eq; have := hz.le; omega
theorem open_mr {s : ByteArray} {st : GSt} {x : Except Nat (GT × GSt)} {k : Nat} (hk : (k = 6 ∧ st.now = openS) ∨ (k = 7 ∧ st.now = doneS)) (hz : GSz s st)
    (h : (thenS (stepB s st.i) fun st1 => thenS (needB s lparS st1) fun st2 => thenS (if namedG st2.now = true then stepB s st2.i else .error st2.pos) fun st3 => thenS (needB s rparS st3) fun st4 => some (.ok (.leaf k 0 st2.now, st4))) = some x) : MR s st.pos x := by
  have hns : st.now.size = 4 := by rcases hk with ⟨_, h⟩ | ⟨_, h⟩ <;> rw [h] <;> rfl
  refine thenS_mr h (fun a ha => step_err hz.le ha) fun s1 e1 h => ?_
  obtain ⟨g1, p1⟩ := step_gz hz.le e1
  refine thenS_mr h (fun a ha => need_errB g1 ha) fun s2 e2 h => ?_
  obtain ⟨g2, p2, n2⟩ := need_gz g1 e2
  have hl1 : s1.now.size = 1 := by rw [n2]; rfl
  by_cases hn : namedG s2.now = true
  · rw [if_pos hn] at h
    refine thenS_mr h (fun a ha => step_err g2.le ha) fun s3 e3 h => ?_
    obtain ⟨g3, p3⟩ := step_gz g2.le e3
    refine thenS_mr h (fun a ha => need_errB g3 ha) fun s4 e4 h => ?_
    obtain ⟨g4, p4, n4⟩ := need_gz g3 e4
    have hl3 : s3.now.size = 1 := by rw [n4]; rfl
    injection h with h; subst h
    have q0 := hz.eq; have q1 := g1.eq; have q2 := g2.eq; have q3 := g3.eq
    refine ⟨g4, .inr (.inr (.inr ⟨?_, rfl, hn⟩)), ?_, ?_⟩
    · rcases hk with ⟨h, _⟩ | ⟨h, _⟩ <;> simp [h]
    · show (leafT k 0 s2.now).length + _ ≤ _
      have : (leafT k 0 s2.now).length = s2.now.size + 6 := by rcases hk with ⟨h, _⟩ | ⟨h, _⟩ <;> subst h <;> simp [leafT]
      omega
    · simp only [GT.toGD, GD.size, GD.sizes]
      omega
  · rw [if_neg hn] at h
    injection h with h; subst h
    have := g2.eq; have := g2.le
    show s2.pos ≤ s.size
    omega
theorem pars_mr (s : ByteArray) : ∀ (f : Nat) (nt : NT), MP s (pars s f nt)
  | 0, _, _, _, _, h => by cases h
  | f + 1, .guard, st, x, hz, h => by
    rw [pars] at h
    exact thenP_mr h (fun y hy => pars_mr s f .side _ _ hz hy) fun g st1 hm h => rowL_mr (pars_mr s f .side) kinds_ok.1 st.pos f g st1 x hm h
  | f + 1, .side, st, x, hz, h => by
    rw [pars] at h
    exact thenP_mr h (fun y hy => pars_mr s f .part _ _ hz hy) fun g st1 hm h => rowL_mr (pars_mr s f .part) kinds_ok.2.1 st.pos f g st1 x hm h
  | f + 1, .sum, st, x, hz, h => by
    rw [pars] at h
    exact thenP_mr h (fun y hy => pars_mr s f .product _ _ hz hy) fun g st1 hm h => rowL_mr (pars_mr s f .product) kinds_ok.2.2.2.1 st.pos f g st1 x hm h
  | f + 1, .product, st, x, hz, h => by
    rw [pars] at h
    exact thenP_mr h (fun y hy => pars_mr s f .atom _ _ hz hy) fun g st1 hm h => rowL_mr (pars_mr s f .atom) kinds_ok.2.2.2.2 st.pos f g st1 x hm h
  | f + 1, .part, st, x, hz, h => by
    rw [pars] at h
    split at h
    · rename_i hn
      have hl : st.now.size = 3 := by rw [hn]; rfl
      refine thenS_mr h (fun a ha => step_err hz.le ha) fun s1 e1 h => ?_
      obtain ⟨g1, p1⟩ := step_gz hz.le e1
      cases hp : pars s f .part s1 with
      | none => rw [hp] at h; cases h
      | some y =>
        have hy := pars_mr s f .part _ _ g1 hp
        rw [hp] at h
        cases y with
        | error a => injection h with h; subst h; exact hy
        | ok z =>
          obtain ⟨g, s2⟩ := z
          injection h with h; subst h
          obtain ⟨q1, q2, q3, q4⟩ := hy
          have he := hz.eq
          refine ⟨q1, ⟨rfl, q2⟩, ?_, ?_⟩
          · rw [one_kid]; omega
          · simp only [GT.toGD, GD.size, GD.sizes]
            show 1 + 0 + _ + _ ≤ _
            omega
    · refine thenP_mr h (fun y hy => pars_mr s f .sum _ _ hz hy) fun g st1 hm h => ?_
      cases hk : kRel st1.now with
      | none => rw [hk] at h; injection h with h; subst h; exact hm
      | some k =>
        rw [hk] at h
        obtain ⟨k1, k2⟩ := kinds_ok.2.2.1 _ _ hk
        obtain ⟨q1, q2, q3, q4⟩ := hm
        refine thenS_mr h (fun a ha => step_err q1.le ha) fun s2 e2 h => ?_
        obtain ⟨g2, p2⟩ := step_gz q1.le e2
        cases hp : pars s f .sum s2 with
        | none => rw [hp] at h; cases h
        | some y =>
          have hy := pars_mr s f .sum _ _ g2 hp
          rw [hp] at h
          cases y with
          | error a => injection h with h; subst h; exact hy
          | ok z =>
            obtain ⟨g3, s3⟩ := z
            injection h with h; subst h
            exact join_mr k1 k2 q1 q2 q3 q4 p2 hy
  | f + 1, .atom, st, x, hz, h => by
    by_cases h1 : st.now = trueS
    · rw [at1 h1] at h
      have : st.now.size = 4 := by rw [h1]; rfl
      exact leaf_mr hz (.inl ⟨.inl rfl, rfl, rfl⟩) (by rw [this]; decide) (by rw [this]; decide) h
    by_cases h2 : st.now = falseS
    · rw [at2 h1 h2] at h
      have : st.now.size = 5 := by rw [h2]; rfl
      exact leaf_mr hz (.inl ⟨.inr rfl, rfl, rfl⟩) (by rw [this]; decide) (by rw [this]; decide) h
    by_cases h3 : st.now = openS ∨ st.now = doneS
    · rw [at3 h1 h2 h3] at h
      refine open_mr ?_ hz h
      rcases h3 with h3 | h3
      · exact .inl ⟨by rw [if_neg (by rw [h3]; decide)], h3⟩
      · exact .inr ⟨by rw [if_pos h3], h3⟩
    by_cases h4 : st.now = lparS
    · rw [at4 h1 h2 h3 h4] at h
      refine thenS_mr h (fun a ha => step_err hz.le ha) fun s1 e1 h => ?_
      obtain ⟨g1, p1⟩ := step_gz hz.le e1
      cases hp : pars s f .guard s1 with
      | none => rw [hp] at h; cases h
      | some y =>
        have hy := pars_mr s f .guard _ _ g1 hp
        rw [hp] at h
        cases y with
        | error a => injection h with h; subst h; exact hy
        | ok z =>
          obtain ⟨g, s2⟩ := z
          obtain ⟨q1, q2, q3, q4⟩ := hy
          simp only [thenP] at h
          refine thenS_mr h (fun a ha => need_errB q1 ha) fun s3 e3 h => ?_
          obtain ⟨g3, p3, -⟩ := need_gz q1 e3
          injection h with h; subst h
          have := hz.eq; have := q1.eq
          exact ⟨g3, q2, by omega, by omega⟩
    by_cases h5 : 0 < st.now.size ∧ digitB (st.now.data.toList.headD 0) = true
    · rw [at5 h1 h2 h3 h4 h5] at h
      obtain ⟨q1, q2, q3⟩ := tok_digits hz.tok h5.1 h5.2
      have hl := dec_len q1 q2
      rw [ba_len] at hl
      refine leaf_mr hz (.inr (.inl ⟨rfl, by omega, by omega, rfl⟩)) ?_ (by show 1 + 0 ≤ _; omega) h
      show (Lib.decDigits ((spell 0 st.now.data.toList : Int).toNat)).length ≤ _
      rw [Int.toNat_natCast]
      omega
    by_cases h6 : 0 < st.now.size ∧ st.now.data.toList.headD 0 = 39
    · rw [at6 h1 h2 h3 h4 h5 h6] at h
      obtain ⟨q1, q2, q3⟩ := tok_quoted hz.tok h6.1 h6.2
      refine leaf_mr hz (.inr (.inr (.inl ⟨rfl, rfl, q2⟩))) ?_ (by omega) h
      show (39 :: (_ ++ [39])).length ≤ _
      rw [List.length_cons, List.length_append, ba_len]
      simp only [List.length_singleton]
      omega
    rw [at7 h1 h2 h3 h4 h5 h6] at h
    exact name_mr hz h
/-- what is read -/
theorem readG_mr {s : ByteArray} {f : Nat} {x : Except (Nat × Int) GT} (h : readG s f = some x) : match x with
    | .ok g => g.may ∧ g.deep ≤ 32 ∧ g.txt.length ≤ 5 * s.size ∧ g.toGD.size ≤ 3 * s.size
    | .error (a, _) => a ≤ s.size := by
  unfold readG at h
  cases hs : stepB s 0 with
  | error a => rw [hs] at h; injection h with h; subst h; exact step_err (Nat.zero_le _) hs
  | ok st =>
    rw [hs] at h
    simp only at h
    obtain ⟨g0, p0⟩ := step_gz (Nat.zero_le _) hs
    cases hp : pars s f .guard st with
    | none => rw [hp] at h; cases h
    | some y =>
      have hy := pars_mr s f .guard _ _ g0 hp
      rw [hp] at h
      cases y with
      | error a => simp only at h; injection h with h; subst h; exact hy
      | ok z =>
        obtain ⟨g, st1⟩ := z
        obtain ⟨q1, q2, q3, q4⟩ := hy
        have hle : st1.pos ≤ s.size := by have := q1.eq; have := q1.le; omega
        simp only at h
        split at h
        · injection h with h; subst h; exact hle
        · split at h
          · injection h with h; subst h; exact Nat.zero_le _
          · injection h with h; subst h
            rename_i hd
            have hw : g.txt.length ≤ g.kid.length := by show _ ≤ (wrapT _ _).length; unfold wrapT; split <;> simp; omega
            exact ⟨q2, by omega, by omega, by omega⟩
end Go.Proofs.YtfbbkmdhnkmonaaGreatDoor
