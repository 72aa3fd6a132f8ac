/- Texts in their order; a map's keys in order. -/
import Derived.Test.YtkiepajhakoeiaaDoorMap
import Derived.Sort.KeysCollected
import Derived.Sort.Walk0
namespace Go.Proofs.YtkiepajhakoeiaaDoor
open Go.RowKit

def ltB (a b : ByteArray) : Prop := a.data.toList < b.data.toList
/-- rising -/
abbrev Rising (l : List ByteArray) : Prop := l.Pairwise ltB

theorem ltB_irrefl (a : ByteArray) : ¬ ltB a a := List.lt_irrefl _
theorem ltB_trans {a b c : ByteArray} (h : ltB a b) (k : ltB b c) : ltB a c := List.lt_trans h k
theorem ltB_tri (a b : ByteArray) : ltB a b ∨ a = b ∨ ltB b a := by
  by_cases h1 : ltB a b
  · exact .inl h1
  · by_cases h2 : ltB b a
    · exact .inr (.inr h2)
    · refine .inr (.inl ?_)
      have e : a.data.toList = b.data.toList := List.le_antisymm (List.not_lt.1 h2) (List.not_lt.1 h1)
      cases a; cases b; simp at e; simp [e]

theorem rising_unique : ∀ {l m : List ByteArray}, Rising l → Rising m → (∀ x, x ∈ l ↔ x ∈ m) → l = m
  | [], [], _, _, _ => rfl
  | [], y :: m, _, _, h => by have := (h y).2 (by simp); cases this
  | x :: l, [], _, _, h => by have := (h x).1 (by simp); cases this
  | x :: l, y :: m, hl, hm, h => by
    obtain ⟨hl1, hl2⟩ := List.pairwise_cons.1 hl
    obtain ⟨hm1, hm2⟩ := List.pairwise_cons.1 hm
    have e : x = y := by
      rcases List.mem_cons.1 ((h x).1 (by simp)) with h1 | h1
      · exact h1
      · rcases List.mem_cons.1 ((h y).2 (by simp)) with h2 | h2
        · exact h2.symm
        · exact absurd (ltB_trans (hl1 y h2) (hm1 x h1)) (ltB_irrefl x)
    subst e
    have := rising_unique hl2 hm2 fun z => by
      constructor
      · intro hz
        rcases List.mem_cons.1 ((h z).1 (by simp [hz])) with h1 | h1
        · exact absurd (hl1 z hz) (by rw [h1]; exact ltB_irrefl x)
        · exact h1
      · intro hz
        rcases List.mem_cons.1 ((h z).2 (by simp [hz])) with h1 | h1
        · exact absurd (hm1 z hz) (by rw [h1]; exact ltB_irrefl x)
        · exact h1
    rw [this]

/-- a sorted list of byte lists, as texts -/
def asTexts (ss : List (List UInt8)) : List ByteArray := (ss.mergeSort (fun x y => decide (x ≤ y))).map fun l => ⟨l.toArray⟩
theorem asTexts_cells (ss : List (List UInt8)) : (ss.mergeSort (fun x y => decide (x ≤ y))).map encStr = (asTexts ss).map Value.string := by
  simp [asTexts, Function.comp_def]
theorem asTexts_rising {ss : List (List UInt8)} (h : ss.Nodup) : Rising (asTexts ss) := by
  unfold Rising asTexts
  rw [List.pairwise_map]
  have h1 : (ss.mergeSort (fun x y => decide (x ≤ y))).Pairwise (fun a b => decide (a ≤ b) = true) := by
    refine List.pairwise_mergeSort ?_ ?_ ss
    · intro a b c h1 h2
      simp only [decide_eq_true_eq] at *
      exact List.le_trans h1 h2
    · intro a b
      simp only [Bool.or_eq_true, decide_eq_true_eq]
      exact List.le_total a b
  have h2 : (ss.mergeSort (fun x y => decide (x ≤ y))).Nodup := (List.mergeSort_perm ss _).nodup_iff.2 h
  refine (h1.and h2).imp ?_
  intro a b ⟨h3, h4⟩
  simp only [decide_eq_true_eq] at h3
  show a < b
  by_cases h5 : a < b
  · exact h5
  · exact absurd (List.le_antisymm h3 (List.not_lt.1 h5)) h4
theorem asTexts_mem {ss : List (List UInt8)} {x : ByteArray} : x ∈ asTexts ss ↔ x.data.toList ∈ ss := by
  unfold asTexts
  rw [List.mem_map]
  constructor
  · rintro ⟨l, hl, rfl⟩
    simpa using (List.mergeSort_perm ss _).mem_iff.1 hl
  · intro h
    exact ⟨x.data.toList, (List.mergeSort_perm ss _).mem_iff.2 h, rfl⟩

def anyR : Value → Option (DataW Unit × List MemPlace) := fun _ => some (.nil, [])
def mapD (P : Program) (K : TypeId) (ents : Ents) : DataW Unit := .map (((entsL ents).map (Go.WideElems.rg P K anyR)).foldr DataW.insert [])

section
variable {P : Program} {K : TypeId} {w : World} {b : Nat} {ents : Ents}
theorem MapIs.owns (h : MapIs w b ents) (hK : P.underlying K = some .string) (hl : ents.length ≤ maxLen) : w.ownsMap P K anyR b ents.length (mapD P K ents) := by
  refine ⟨(entsL ents).toArray, ents.length, h.heap, ⟨by simpa [entsL] using hl, ⟨?_, ?_, ?_⟩, ?_⟩, by simp [entsL], by simp [mapD]⟩
  · intro x hx
    obtain ⟨i, hi, rfl⟩ := mem_entsL (by simpa using hx)
    exact hi
  · show ((entsL ents).map (·.born)).Nodup
    rw [entsL_born]; exact List.nodup_range
  · show ((entsL ents).map (·.key)).Nodup
    have e : (entsL ents).map (·.key) = (ents.map (·.1)).map Value.string := by
      apply List.ext_getElem
      · simp [entsL]
      · intro i h1 h2
        simp [entsL, entOf]
    rw [e]
    refine List.Pairwise.map _ (fun a c hac he => hac ?_) h.nodup
    injection he
  · intro x hx
    obtain ⟨i, hi, rfl⟩ := mem_entsL (by simpa using hx)
    exact ⟨(.string ents[i].1.data.toList, .nil), by simp [Go.WideElems.rd, entOf, key_str hK (h.short _ (List.getElem_mem hi)), anyR]⟩
theorem mapD_size (ents : Ents) : Go.Maps.size (mapD P K ents) = ents.length := by
  simp [Go.Maps.size, mapD, length_sorted, entsL]
theorem mapD_keys (hK : P.underlying K = some .string) (hs : ∀ x ∈ ents, x.1.size ≤ maxLen) : (strKeys (mapD P K ents)).Perm (ents.map fun x => x.1.data.toList) := by
  unfold mapD strKeys
  refine ((Go.WideShapes.sorted_perm _).map _).trans ?_
  have e : ((entsL ents).map (Go.WideElems.rg P K anyR)).map (fun p => strOf p.1) = ents.map fun x => x.1.data.toList := by
    apply List.ext_getElem
    · simp [entsL]
    · intro i h1 h2
      have hi : i < ents.length := by simpa using h2
      simp [entsL, entOf, Go.WideElems.rg, Go.WideElems.rd, key_str hK (hs _ (List.getElem_mem hi)), anyR, strOf]
  rw [e]
end
end Go.Proofs.YtkiepajhakoeiaaDoor
