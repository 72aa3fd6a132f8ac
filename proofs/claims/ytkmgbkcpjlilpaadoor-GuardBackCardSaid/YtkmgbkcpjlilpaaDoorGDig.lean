/- docketref16.Int of digits. -/
import Derived.Test.YtkmgbkcpjlilpaaDoorGPlain
namespace Go.Proofs.YtkmgbkcpjlilpaaDoor
open Go.RowKit

theorem spell_ltG (l : List UInt8) : ∀ acc : Nat, l.all digitB = true → spell acc l < (acc + 1) * 10 ^ l.length := by
  induction l with
  | nil =>
    intro acc _
    show acc < (acc + 1) * 10 ^ 0
    rw [Nat.pow_zero]
    omega
  | cons c r ih =>
    intro acc h
    simp only [List.all_cons, Bool.and_eq_true] at h
    have hc := h.1
    simp only [digitB, decide_eq_true_eq] at hc
    have h1 := ih (acc * 10 + (c.toNat - 48)) h.2
    have h2 : (acc * 10 + (c.toNat - 48) + 1) * 10 ^ r.length ≤ ((acc + 1) * 10) * 10 ^ r.length := Nat.mul_le_mul_right _ (by omega)
    have h3 : ((acc + 1) * 10) * 10 ^ r.length = (acc + 1) * 10 ^ (r.length + 1) := by rw [Nat.pow_succ, Nat.mul_comm (10 ^ r.length) 10, Nat.mul_assoc]
    have h4 : spell acc (c :: r) = spell (acc * 10 + (c.toNat - 48)) r := rfl
    rw [h4, List.length_cons, ← h3]
    exact Nat.lt_of_lt_of_le h1 h2
theorem spell_geG (l : List UInt8) : ∀ acc : Nat, acc * 10 ^ l.length ≤ spell acc l := by
  induction l with
  | nil =>
    intro acc
    show acc * 10 ^ 0 ≤ acc
    rw [Nat.pow_zero]
    omega
  | cons c r ih =>
    intro acc
    have h1 := ih (acc * 10 + (c.toNat - 48))
    have h2 : (acc * 10) * 10 ^ r.length ≤ (acc * 10 + (c.toNat - 48)) * 10 ^ r.length := Nat.mul_le_mul_right _ (by omega)
    have h3 : (acc * 10) * 10 ^ r.length = acc * 10 ^ (r.length + 1) := by rw [Nat.pow_succ, Nat.mul_comm (10 ^ r.length) 10, Nat.mul_assoc]
    have h4 : spell acc (c :: r) = spell (acc * 10 + (c.toNat - 48)) r := rfl
    rw [h4, List.length_cons, ← h3]
    exact Nat.le_trans h2 h1
/-- twenty digits that do not begin with nought are too great -/
theorem spell_great {l : List UInt8} (hh : 49 ≤ (l.headD 0).toNat) (hl : 19 < l.length) : 9223372036854775807 < spell 0 l := by
  cases l with
  | nil => simp at hl
  | cons c r =>
    have hc : 49 ≤ c.toNat := hh
    have h1 := spell_geG r (0 * 10 + (c.toNat - 48))
    have h2 : 10 ^ 19 ≤ 10 ^ r.length := Nat.pow_le_pow_right (by omega) (by simp only [List.length_cons] at hl; omega)
    have h3 : 1 * 10 ^ r.length ≤ (0 * 10 + (c.toNat - 48)) * 10 ^ r.length := Nat.mul_le_mul_right _ (by omega)
    have h4 : spell 0 (c :: r) = spell (0 * 10 + (c.toNat - 48)) r := rfl
    omega
theorem spell_small {l : List UInt8} (hd : l.all digitB = true) (hl : l.length < 19) : spell 0 l ≤ 9223372036854775807 := by
  have h1 := spell_ltG l 0 hd
  have h2 : 10 ^ l.length ≤ 10 ^ 18 := Nat.pow_le_pow_right (by omega) (by omega)
  omega
theorem spell_nil (a : Nat) : spell a [] = a := id rfl
theorem spell_cons (a : Nat) (c : UInt8) (l : List UInt8) : spell a (c :: l) = spell (a * 10 + (c.toNat - 48)) l := id rfl
theorem spell_up (l : List UInt8) : ∀ (m : List UInt8) (a b : Nat), l.length = m.length → l.all digitB = true → m.all digitB = true → a < b → spell a l < spell b m := by
  induction l with
  | nil =>
    intro m a b h _ _ hab
    cases m with
    | nil => rw [spell_nil, spell_nil]; exact hab
    | cons d m => simp at h
  | cons c l ih =>
    intro m a b h hl hm hab
    cases m with
    | nil => simp at h
    | cons d m =>
      simp only [List.all_cons, Bool.and_eq_true] at hl hm
      have hc := hl.1
      have hd := hm.1
      simp only [digitB, decide_eq_true_eq] at hc hd
      have hlen : l.length = m.length := by simpa using h
      rw [spell_cons, spell_cons]
      exact ih m _ _ hlen hl.2 hm.2 (by omega)
/-- of as many digits the order of bytes is that of numbers -/
theorem spell_less (l : List UInt8) : ∀ (m : List UInt8) (a : Nat), l.length = m.length → l.all digitB = true → m.all digitB = true →
    ((Op.bytesLess l m = true ↔ spell a l < spell a m) ∧ (l = m ↔ spell a l = spell a m)) := by
  induction l with
  | nil =>
    intro m a h _ _
    cases m with
    | nil =>
      have h : Op.bytesLess [] [] = false := rfl
      rw [h, spell_nil]
      exact ⟨⟨fun h => (Bool.noConfusion h), fun h => absurd h (Nat.lt_irrefl _)⟩, ⟨fun _ => rfl, fun _ => rfl⟩⟩
    | cons d m => simp at h
  | cons c l ih =>
    intro m a h hl hm
    cases m with
    | nil => simp at h
    | cons d m =>
      simp only [List.all_cons, Bool.and_eq_true] at hl hm
      have hc := hl.1
      have hd := hm.1
      simp only [digitB, decide_eq_true_eq] at hc hd
      have hlen : l.length = m.length := by simpa using h
      rw [spell_cons, spell_cons]
      have e : Op.bytesLess (c :: l) (d :: m) = (decide (c < d) || (c == d && Op.bytesLess l m)) := rfl
      rw [e]
      rcases Nat.lt_trichotomy c.toNat d.toNat with hcd | hcd | hcd
      · have h3 := spell_up l m (a * 10 + (c.toNat - 48)) (a * 10 + (d.toNat - 48)) hlen hl.2 hm.2 (by omega)
        have h4 : c < d := hcd
        refine ⟨⟨fun _ => h3, fun _ => (by rw [decide_eq_true h4]; rfl)⟩, ⟨fun he => ?_, fun he => absurd he (Nat.ne_of_lt h3)⟩⟩
        injection he with e1 e2
        subst e1
        omega
      · have h4 : c = d := UInt8.toNat_inj.1 hcd
        subst h4
        have h3 := ih m (a * 10 + (c.toNat - 48)) hlen hl.2 hm.2
        have h5 : ¬ c < c := fun hlt => Nat.lt_irrefl _ (show c.toNat < c.toNat from hlt)
        rw [decide_eq_false h5, Bool.false_or, beq_self_eq_true, Bool.true_and, ← h3.2]
        exact ⟨h3.1, ⟨fun he => (List.cons.inj he).2, fun he => (by rw [he])⟩⟩
      · have h3 := spell_up m l (a * 10 + (d.toNat - 48)) (a * 10 + (c.toNat - 48)) hlen.symm hm.2 hl.2 (by omega)
        have h4 : ¬ c < d := fun hlt => (by have hlt' : c.toNat < d.toNat := hlt; omega)
        have h5 : ¬ c = d := fun he => (by subst he; omega)
        rw [decide_eq_false h4, beq_eq_false_iff_ne.2 h5, Bool.false_and, Bool.false_or]
        exact ⟨⟨fun h => (Bool.noConfusion h), fun h => absurd h (Nat.not_lt.2 (Nat.le_of_lt h3))⟩, ⟨fun he => absurd (List.cons.inj he).1 h5, fun he => absurd he.symm (Nat.ne_of_lt h3)⟩⟩
abbrev leastS : List UInt8 := [57, 50, 50, 51, 51, 55, 50, 48, 51, 54, 56, 53, 52, 55, 55, 53, 56, 48, 55]
theorem spell_least : spell 0 leastS = 9223372036854775807 := by decide +kernel
theorem least_gt {l : List UInt8} (hl : l.length = 19) (hd : l.all digitB = true) : (Op.bytesLess l leastS || l == leastS) = decide (spell 0 l ≤ 9223372036854775807) := by
  have h := spell_less l leastS 0 (by rw [hl]; rfl) hd (by decide +kernel)
  rw [spell_least] at h
  rw [Bool.eq_iff_iff, Bool.or_eq_true, h.1, beq_iff_eq, h.2, decide_eq_true_eq]
  omega
theorem spell_snocG {s : ByteArray} {k : Nat} (h : k < s.size) : spell 0 (s.data.toList.take (k + 1)) = spell 0 (s.data.toList.take k) * 10 + (s[k].toNat - 48) := by
  rw [take_snoc s k h, spell_append]; rfl
theorem spell_mono (s : ByteArray) (k : Nat) : spell 0 (s.data.toList.take k) ≤ spell 0 s.data.toList := by
  have h := spell_append (s.data.toList.drop k) (s.data.toList.take k) 0
  rw [List.take_append_drop] at h
  rw [h]
  exact spell_ge _ _
end Go.Proofs.YtkmgbkcpjlilpaaDoor
