/- What names come to: the plain laws of roles, without a program. -/
import Derived.Test.YtkiepajhakoeiaaDoorRolesMay
namespace Go.Proofs.YtkiepajhakoeiaaDoor

theorem closedE_few {l : List Rl} {names : List ByteArray} (h : names.length ≤ 1024) : closedE l names = chkP l := by
  unfold closedE
  split
  · rfl
  · rename_i h2
    rw [if_neg (by omega)]
    exact (Decidable.of_not_not h2).symm
theorem closedE_chk {l : List Rl} {names : List ByteArray} (h : closedE l names = 0) : chkP l = 0 := by
  unfold closedE at h
  split at h
  · exact h
  · rename_i h2; exact Decidable.of_not_not h2
theorem closed_nodup {l : List Rl} {names : List ByteArray} (h : closedE l names = 0) : (l.map Rl.name).Nodup ∧ l.length ≤ 32 := by
  obtain ⟨-, h1, h2, -⟩ := nodup_byName (closedE_chk h)
  exact ⟨h1, h2⟩
theorem reach_mem {l : List Rl} {names : List ByteArray} {r : Rl} (h : Reach l names r) : r ∈ l := by
  cases h with
  | start _ hf => exact (findR_name hf).2
  | more _ _ hf => exact (findR_name hf).2
theorem reach_mono {l : List Rl} {names both : List ByteArray} (hs : ∀ n ∈ names, n ∈ both) {r : Rl} (h : Reach l names r) : Reach l both r := by
  induction h with
  | start hn hf => exact .start (hs _ hn) hf
  | more _ hn hf ih => exact .more ih hn hf
theorem same_role {l : List Rl} (hn : (l.map Rl.name).Nodup) {r r' : Rl} (h : r ∈ l) (h' : r' ∈ l) (e : r.name = r'.name) : r = r' := by
  have h1 := findR_mem hn h
  have h2 := findR_mem hn h'
  rw [← e, h1] at h2
  exact Option.some.inj h2
/-- a role's name is told just if the names come to the role -/
theorem closed_mem {l : List Rl} {names ns : List ByteArray} (h : ClosedTo l names ns) (he : closedE l names = 0) {r : Rl} (hr : r ∈ l) : r.name ∈ ns ↔ Reach l names r := by
  rw [(h.2 he).2]
  constructor
  · rintro ⟨r', h1, h2⟩
    rwa [same_role (closed_nodup he).1 hr (reach_mem h1) h2.symm]
  · exact fun h => ⟨r, h, rfl⟩
theorem closed_sub {l : List Rl} {names both a b : List ByteArray} (h : ClosedTo l names a) (hb : ClosedTo l both b) (he : closedE l names = 0) (he2 : closedE l both = 0) (hs : ∀ n ∈ names, n ∈ both) : ∀ n ∈ a, n ∈ b := by
  intro n hn
  obtain ⟨r, h1, h2⟩ := ((h.2 he).2 n).1 hn
  exact ((hb.2 he2).2 n).2 ⟨r, reach_mono hs h1, h2⟩
theorem closed_same {l : List Rl} {names a b : List ByteArray} (h : ClosedTo l names a) (hb : ClosedTo l names b) : a = b := by
  by_cases he : closedE l names = 0
  · exact rising_unique (h.2 he).1 (hb.2 he).1 fun n => by rw [(h.2 he).2, (hb.2 he).2]
  · rw [h.1 he, hb.1 he]
theorem closed_again {l : List Rl} {names a b : List ByteArray} (h : ClosedTo l names a) (hb : ClosedTo l a b) (he : closedE l names = 0) (he2 : closedE l a = 0) : b = a := by
  refine rising_unique (hb.2 he2).1 (h.2 he).1 fun n => ?_
  rw [(hb.2 he2).2]
  constructor
  · rintro ⟨r, h1, rfl⟩
    refine (closed_mem h he (reach_mem h1)).2 ?_
    induction h1 with
    | start hn hf =>
      obtain ⟨e1, e2⟩ := findR_name hf
      rw [← e1] at hn
      exact (closed_mem h he e2).1 hn
    | more _ hn hf ih => exact .more ih hn hf
  · intro hn
    obtain ⟨r, h1, h2⟩ := ((h.2 he).2 n).1 hn
    refine ⟨r, .start hn ?_, h2⟩
    rw [← h2]
    exact findR_mem (closed_nodup he).1 (reach_mem h1)
theorem closed_len {l : List Rl} {names a : List ByteArray} (h : ClosedTo l names a) : a.length ≤ 32 := by
  by_cases he : closedE l names = 0
  · have hn : a.Nodup := List.Pairwise.imp (fun {x y} (h : ltB x y) (e : x = y) => ltB_irrefl y (e ▸ h)) (h.2 he).1
    have := nodup_len a (l.map Rl.name) hn fun x hx => by
      obtain ⟨r, h1, rfl⟩ := ((h.2 he).2 x).1 hx
      exact List.mem_map.2 ⟨r, reach_mem h1, rfl⟩
    have h2 := (closed_nodup he).2
    simp only [List.length_map] at this
    omega
  · rw [h.1 he]; simp
theorem closed_sizes {l : List Rl} {names a : List ByteArray} (h : ClosedTo l names a) (hl : ∀ r ∈ l, r.name.size ≤ maxLen) : ∀ s ∈ a, s.size ≤ maxLen := by
  intro s hs
  by_cases he : closedE l names = 0
  · obtain ⟨r, h1, rfl⟩ := ((h.2 he).2 s).1 hs
    exact hl _ (reach_mem h1)
  · rw [h.1 he] at hs; cases hs
theorem closed_lt {l : List Rl} {names a : List ByteArray} (h : ClosedTo l names a) (i : Nat) (hi : i + 1 < a.length) : ltB a[i] a[i + 1] := by
  by_cases he : closedE l names = 0
  · exact List.pairwise_iff_getElem.1 (h.2 he).1 i (i + 1) _ _ (by omega)
  · rw [h.1 he] at hi; simp at hi

/-- whether a text stands in a list -/
def hasB (xs : List ByteArray) (s : ByteArray) : Bool := xs.any fun x => decide (x = s)
theorem hasB_iff {xs : List ByteArray} {s : ByteArray} : hasB xs s = true ↔ s ∈ xs := by simp [hasB]
theorem hasB_yes {xs : List ByteArray} {s : ByteArray} (h : s ∈ xs) : hasB xs s = true := hasB_iff.2 h
theorem hasB_no {xs : List ByteArray} {s : ByteArray} (h : s ∉ xs) : hasB xs s = false := by
  cases hc : hasB xs s
  · rfl
  · exact absurd (hasB_iff.1 hc) h
theorem any_snoc {α : Type} {p : α → Bool} {l : List α} {k : Nat} (h : k < l.length) : (l.take (k + 1)).any p = ((l.take k).any p || p l[k]) := by
  rw [List.take_succ_eq_append_getElem h, List.any_append]; simp
theorem any_end {α : Type} {p : α → Bool} {l : List α} {k : Nat} (h : l.length ≤ k) : (l.take k).any p = l.any p := by
  rw [List.take_of_length_le h]

/-- a name that is told was named, or is held by a role that is told -/
theorem closed_held {l : List Rl} {names a : List ByteArray} (h : ClosedTo l names a) (he : closedE l names = 0) {r : Rl} (hr : r ∈ l) (ha : hasB a r.name = true) (hn : hasB names r.name = false) : l.any (fun q => hasB a q.name && hasB q.holds r.name) = true := by
  have h1 := (closed_mem h he hr).1 (hasB_iff.1 ha)
  cases h1 with
  | start h2 hf =>
    obtain ⟨e1, e2⟩ := findR_name hf
    rw [← e1] at h2
    rw [hasB_yes h2] at hn; cases hn
  | @more q n _ h2 h3 hf =>
    obtain ⟨e1, e2⟩ := findR_name hf
    refine List.any_eq_true.2 ⟨q, reach_mem h2, ?_⟩
    rw [hasB_yes ((closed_mem h he (reach_mem h2)).2 h2), e1, hasB_yes h3]; rfl
theorem closed_start {l : List Rl} {names a : List ByteArray} (h : ClosedTo l names a) (he : closedE l names = 0) {r : Rl} (hr : r ∈ l) (hn : hasB names r.name = true) : hasB a r.name = true :=
  hasB_yes ((closed_mem h he hr).2 (.start (hasB_iff.1 hn) (findR_mem (closed_nodup he).1 hr)))

theorem mayE_few {l : List Rl} {names both : List ByteArray} {deed : ByteArray} (h : names.length ≤ 1024) (h' : both.length ≤ 1024) : mayE l both deed = mayE l names deed := by
  unfold mayE; rw [closedE_few h, closedE_few h']
theorem mayE_closed {l : List Rl} {names : List ByteArray} {deed : ByteArray} (h : mayE l names deed = 0) : closedE l names = 0 := by
  unfold mayE at h
  split at h
  · exact h
  · rename_i h2; exact Decidable.of_not_not h2
theorem mayIs_no {l : List Rl} {names : List ByteArray} {deed : ByteArray} {b : Bool} (h : MayIs l names deed b) (he : mayE l names deed ≠ 0) : b = false := by
  cases b
  · rfl
  · exact absurd (h.1 rfl).1 he
theorem mayIs_same {l : List Rl} {names : List ByteArray} {deed : ByteArray} {b c : Bool} (h : MayIs l names deed b) (h' : MayIs l names deed c) : b = c := by
  cases b <;> cases c
  · rfl
  · exact absurd (h.2 (h'.1 rfl)) (by simp)
  · exact absurd (h'.2 (h.1 rfl)) (by simp)
  · rfl
theorem mayIs_has {l : List Rl} {names a : List ByteArray} {deed : ByteArray} {b : Bool} (h : MayIs l names deed b) (ha : ClosedTo l names a) (he : mayE l names deed = 0) : b = l.any fun r => hasB a r.name && hasB r.may deed := by
  have h := h
  unfold MayIs at h
  rw [Bool.eq_iff_iff, h, List.any_eq_true]
  constructor
  · rintro ⟨-, r, h1, h2⟩
    exact ⟨r, reach_mem h1, by rw [hasB_yes ((closed_mem ha (mayE_closed he) (reach_mem h1)).2 h1), hasB_yes h2]; rfl⟩
  · rintro ⟨r, h1, h2⟩
    rw [Bool.and_eq_true] at h2
    exact ⟨he, r, (closed_mem ha (mayE_closed he) h1).1 (hasB_iff.1 h2.1), hasB_iff.1 h2.2⟩
theorem mayIs_grow {l : List Rl} {names both : List ByteArray} {deed : ByteArray} {b c : Bool} (h : MayIs l names deed b) (h' : MayIs l both deed c) (he : mayE l both deed = 0) (hs : ∀ n ∈ names, n ∈ both) (hb : b = true) : c = true := by
  obtain ⟨-, r, h1, h2⟩ := h.1 hb
  exact h'.2 ⟨he, r, reach_mono hs h1, h2⟩
end Go.Proofs.YtkiepajhakoeiaaDoor
