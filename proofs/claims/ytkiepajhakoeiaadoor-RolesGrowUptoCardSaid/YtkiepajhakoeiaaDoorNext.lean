/- The smallest name that is next: the plain part of docketref20's Closed. -/
import Derived.Test.YtkiepajhakoeiaaDoorAsked
import Derived.Test.YtkiepajhakoeiaaDoorRolesMay
namespace Go.Proofs.YtkiepajhakoeiaaDoor
open Go.RowKit

/-- above all that is told -/
def Abv (out : List ByteArray) (x : ByteArray) : Prop := ∀ y ∈ out, ltB y x
/-- a marked role's name -/
def Mn (l : List Rl) (is : List Bool) (x : ByteArray) : Prop := ∃ i, ∃ h : i < l.length, mkd is i = true ∧ l[i].name = x

abbrev emptyB : ByteArray := ⟨#[]⟩
structure Nx (l : List Rl) (is : List Bool) (out : List ByteArray) (k : Nat) (next : ByteArray) : Prop where
  none : next = emptyB → ∀ j (h : j < l.length), j < k → mkd is j = true → ¬ Abv out l[j].name
  some : next ≠ emptyB → Mn l is next ∧ Abv out next
  min : next ≠ emptyB → ∀ j (h : j < l.length), j < k → mkd is j = true → Abv out l[j].name → ¬ ltB l[j].name next

theorem Nx.begin (l : List Rl) (is : List Bool) (out : List ByteArray) : Nx l is out 0 emptyB :=
  ⟨fun _ j _ hj => by omega, fun h => absurd rfl h, fun h => absurd rfl h⟩
theorem Nx.skip {l : List Rl} {is : List Bool} {out : List ByteArray} {k : Nat} {next : ByteArray} (h : Nx l is out k next) (hk : k < l.length)
    (hs : mkd is k = true → Abv out l[k].name → next ≠ emptyB ∧ ¬ ltB l[k].name next) : Nx l is out (k + 1) next := by
  refine ⟨fun he j hj hjk hm ha => ?_, h.some, fun he j hj hjk hm ha => ?_⟩
  · by_cases e : j = k
    · subst e; exact (hs hm ha).1 he
    · exact h.none he j hj (by omega) hm ha
  · by_cases e : j = k
    · subst e; exact (hs hm ha).2
    · exact h.min he j hj (by omega) hm ha
theorem Nx.take {l : List Rl} {is : List Bool} {out : List ByteArray} {k : Nat} {next : ByteArray} (h : Nx l is out k next) (hk : k < l.length) (hne : l[k].name ≠ emptyB)
    (hm : mkd is k = true) (ha : Abv out l[k].name) (hs : next = emptyB ∨ ltB l[k].name next) : Nx l is out (k + 1) l[k].name := by
  refine ⟨fun he => absurd he hne, fun _ => ⟨⟨k, hk, hm, rfl⟩, ha⟩, fun _ j hj hjk hmj haj hlt => ?_⟩
  by_cases e : j = k
  · subst e; exact ltB_irrefl _ hlt
  · by_cases he : next = emptyB
    · exact h.none he j hj (by omega) hmj haj
    · refine h.min he j hj (by omega) hmj haj (ltB_trans hlt ?_)
      rcases hs with hs | hs
      · exact absurd hs he
      · exact hs

/-- what is told so far -/
structure Told (l : List Rl) (is : List Bool) (out : List ByteArray) : Prop where
  rising : Rising out
  sound : ∀ y ∈ out, Mn l is y
  all : ∀ y, Mn l is y → y ∈ out ∨ Abv out y
theorem Told.begin (l : List Rl) (is : List Bool) : Told l is [] := ⟨by simp, by simp, fun y _ => .inr (by simp [Abv])⟩
theorem Told.abv {l : List Rl} {is : List Bool} {out : List ByteArray} (h : Told l is out) (ho : 0 < out.length) (x : ByteArray) : Abv out x ↔ ltB (out[out.length - 1]'(by omega)) x := by
  constructor
  · intro ha; exact ha _ (List.getElem_mem _)
  · intro hl y hy
    obtain ⟨i, hi, rfl⟩ := List.mem_iff_getElem.1 hy
    by_cases e : i = out.length - 1
    · subst e; exact hl
    · exact ltB_trans (List.pairwise_iff_getElem.1 h.rising i (out.length - 1) hi (by omega) (by omega)) hl
theorem Told.count {l : List Rl} {is : List Bool} {out : List ByteArray} (h : Told l is out) : out.length ≤ l.length := by
  have := nodup_len out (l.map Rl.name) (List.Pairwise.imp (fun {a b} (hab : ltB a b) (e : a = b) => ltB_irrefl b (by rw [e] at hab; exact hab)) h.rising) fun y hy => by
    obtain ⟨i, hi, -, rfl⟩ := h.sound y hy
    exact List.mem_map_of_mem (List.getElem_mem hi)
  simpa using this
theorem Told.more {l : List Rl} {is : List Bool} {out : List ByteArray} {next : ByteArray} (h : Told l is out) (hn : Nx l is out l.length next) (hne : next ≠ emptyB) : Told l is (out ++ [next]) := by
  obtain ⟨h1, h2⟩ := hn.some hne
  refine ⟨?_, fun y hy => ?_, fun y hy => ?_⟩
  · unfold Rising
    rw [List.pairwise_append]
    exact ⟨h.rising, by simp, fun a ha b hb => by simp at hb; subst hb; exact h2 a ha⟩
  · rcases List.mem_append.1 hy with h' | h'
    · exact h.sound y h'
    · simp at h'; subst h'; exact h1
  · rcases h.all y hy with h3 | h3
    · exact .inl (by simp [h3])
    · rcases ltB_tri next y with h4 | h4 | h4
      · refine .inr fun z hz => ?_
        rcases List.mem_append.1 hz with hz | hz
        · exact h3 z hz
        · simp at hz; subst hz; exact h4
      · exact .inl (by simp [h4])
      · obtain ⟨i, hi, hm, rfl⟩ := hy
        exact absurd h4 (hn.min hne i hi hi hm h3)
theorem Told.end {l : List Rl} {names out : List ByteArray} {is : List Bool} (h : Told l is out) (hn : Nx l is out l.length emptyB) (ha : AskedIs l names is) (he : closedE l names = 0) : ClosedTo l names out := by
  refine ⟨fun h => absurd he h, fun _ => ⟨h.rising, fun n => ?_⟩⟩
  have key : Mn l is n ↔ ∃ r, Reach l names r ∧ r.name = n := by
    constructor
    · rintro ⟨i, hi, hm, rfl⟩; exact ⟨l[i], (ha.2 i hi).1 hm, rfl⟩
    · rintro ⟨r, hr, rfl⟩
      have hml : r ∈ l := by
        cases hr with
        | start _ h => exact (findR_name h).2
        | more _ _ h => exact (findR_name h).2
      obtain ⟨i, hi, rfl⟩ := List.mem_iff_getElem.1 hml
      exact ⟨i, hi, (ha.2 i hi).2 hr, rfl⟩
  rw [← key]
  constructor
  · exact h.sound n
  · intro hm
    rcases h.all n hm with h1 | h1
    · exact h1
    · obtain ⟨i, hi, hmi, rfl⟩ := hm
      exact absurd h1 (hn.none rfl i hi hi hmi)
instance (a b : ByteArray) : Decidable (ltB a b) := inferInstanceAs (Decidable (a.data.toList < b.data.toList))
theorem lt_bytes (a b : ByteArray) : Op.bytesLess a.toList b.toList = decide (ltB a b) := by
  rw [Go.ByteArray.toList_eq, Go.ByteArray.toList_eq, bytesLess_eq]; rfl
theorem gt_yes {a b : ByteArray} (h : ltB a b) : Op.bytesLess b.toList a.toList = false ∧ (b.toList == a.toList) = false := by
  rw [lt_bytes, ba_eq]
  exact ⟨decide_eq_false fun k => ltB_irrefl a (ltB_trans h k), decide_eq_false fun e => ltB_irrefl a (by rw [e] at h; exact h)⟩
theorem gt_no {a b : ByteArray} (h : ¬ ltB a b) : (Op.bytesLess b.toList a.toList = true ∧ (b.toList == a.toList) = false) ∨ (Op.bytesLess b.toList a.toList = false ∧ (b.toList == a.toList) = true) := by
  rw [lt_bytes, ba_eq]
  rcases ltB_tri a b with h1 | rfl | h1
  · exact absurd h1 h
  · exact .inr ⟨decide_eq_false h, decide_eq_true rfl⟩
  · exact .inl ⟨decide_eq_true h1, decide_eq_false fun e => ltB_irrefl a (by rw [e] at h1; exact h1)⟩
theorem ne_isEmpty {a : ByteArray} (h : a ≠ emptyB) : a.toList.isEmpty = false := by
  rw [ba_empty]
  cases hc : a.data.toList.isEmpty
  · rfl
  · exfalso; apply h; cases a; simp at hc; simp [hc]
end Go.Proofs.YtkiepajhakoeiaaDoor
