/- roles.closed: the roles that names come to. -/
import Derived.Test.YtinijohmdljieaaGreatDoorRolesCheck
import Derived.Test.YtinijohmdljieaaGreatDoorOwn
namespace Go.Proofs.YtinijohmdljieaaGreatDoor
open Go.RowKit

/-- what names come to, among roles -/
inductive Reach (M : List Rl) (names : List ByteArray) : Rl → Prop
  | start {n : ByteArray} {r : Rl} : n ∈ names → findR M n = some r → Reach M names r
  | more {r : Rl} {n : ByteArray} {r' : Rl} : Reach M names r → n ∈ r.holds → findR M n = some r' → Reach M names r'

/-- the worklist's state -/
structure Work (M : List Rl) (names : List ByteArray) (out : List Rl) (todo : List ByteArray) : Prop where
  nodup : (out.map Rl.name).Nodup
  sound : ∀ r ∈ out, Reach M names r
  from' : ∀ n ∈ todo, n ∈ names ∨ ∃ r ∈ out, n ∈ r.holds
  all1 : ∀ n ∈ names, n ∈ todo ∨ ∀ r, findR M n = some r → r ∈ out
  all2 : ∀ r ∈ out, ∀ n ∈ r.holds, n ∈ todo ∨ ∀ r', findR M n = some r' → r' ∈ out
  sub : ∀ r ∈ out, r ∈ M
  size : todo.length ≤ names.length + 32 * out.length

theorem findR_name {M : List Rl} {n : ByteArray} {r : Rl} (h : findR M n = some r) : r.name = n ∧ r ∈ M := by
  induction M with
  | nil => simp [findR] at h
  | cons x M ih =>
    simp only [findR] at h
    split at h
    · injection h with h; subst h; exact ⟨by assumption, by simp⟩
    · exact ⟨(ih h).1, by simp [(ih h).2]⟩
theorem findR_none {M : List Rl} {n : ByteArray} (h : findR M n = none) : ∀ r ∈ M, r.name ≠ n := by
  induction M with
  | nil => simp
  | cons x M ih =>
    simp only [findR] at h
    split at h
    · cases h
    · intro r hr
      rcases List.mem_cons.1 hr with rfl | hr
      · assumption
      · exact ih h r hr
theorem putR_none {l : List Rl} {r : Rl} (h : findR l r.name = none) : putR l r = l ++ [r] := by
  induction l with
  | nil => rfl
  | cons x l ih =>
    simp only [findR] at h
    split at h
    · cases h
    · rename_i hne
      simp only [putR, hne, if_false, List.cons_append, ih h]
theorem findR_mem {M : List Rl} (hn : (M.map Rl.name).Nodup) {r : Rl} (h : r ∈ M) : findR M r.name = some r := by
  induction M with
  | nil => cases h
  | cons x M ih =>
    simp only [List.map_cons, List.nodup_cons] at hn
    rcases List.mem_cons.1 h with rfl | h
    · simp [findR]
    · have : x.name ≠ r.name := fun e => hn.1 (by rw [e]; exact List.mem_map_of_mem h)
      simp only [findR, this, if_false]
      exact ih hn.2 h

theorem Work.begin (M : List Rl) (names : List ByteArray) : Work M names [] names :=
  ⟨by simp, by simp, fun n h => .inl h, fun n h => .inl h, by simp, by simp, by simp⟩
/-- a name that is no role's, or had -/
theorem Work.skip {M out : List Rl} {names todo : List ByteArray} {n : ByteArray} (h : Work M names out (todo ++ [n])) (hs : findR M n = none ∨ (findR out n).isSome = true) (hM : (M.map Rl.name).Nodup) : Work M names out todo := by
  have key : ∀ r, findR M n = some r → r ∈ out := by
    intro r hr
    rcases hs with hs | hs
    · rw [hs] at hr; cases hr
    · obtain ⟨r', hr'⟩ := Option.isSome_iff_exists.1 hs
      obtain ⟨h1, h2⟩ := findR_name hr'
      have h3 := findR_mem hM (h.sub r' h2)
      rw [h1, hr] at h3
      injection h3 with h3
      rw [h3]; exact h2
  refine ⟨h.nodup, h.sound, fun m hm => h.from' m (by simp [hm]), fun m hm => ?_, fun r hr m hm => ?_, h.sub, ?_⟩
  · rcases h.all1 m hm with h1 | h1
    · rcases List.mem_append.1 h1 with h1 | h1
      · exact .inl h1
      · simp at h1; subst h1; exact .inr key
    · exact .inr h1
  · rcases h.all2 r hr m hm with h1 | h1
    · rcases List.mem_append.1 h1 with h1 | h1
      · exact .inl h1
      · simp at h1; subst h1; exact .inr key
    · exact .inr h1
  · have := h.size; simp at this; omega
/-- a new role -/
theorem Work.add {M out : List Rl} {names todo : List ByteArray} {n : ByteArray} {r : Rl} (h : Work M names out (todo ++ [n])) (hr : findR M n = some r) (ho : findR out n = none) (hl : r.holds.length ≤ 32) :
    Work M names (out ++ [r]) (todo ++ r.holds) := by
  obtain ⟨hn, hmem⟩ := findR_name hr
  have hreach : Reach M names r := by
    rcases h.from' n (by simp) with h1 | ⟨r0, h1, h2⟩
    · exact .start h1 hr
    · exact .more (h.sound r0 h1) h2 hr
  have key : ∀ m, (m ∈ todo ++ [n] ∨ ∀ r', findR M m = some r' → r' ∈ out) → (m ∈ todo ++ r.holds ∨ ∀ r', findR M m = some r' → r' ∈ out ++ [r]) := by
    intro m hm
    rcases hm with h1 | h1
    · rcases List.mem_append.1 h1 with h1 | h1
      · exact .inl (by simp [h1])
      · simp at h1; subst h1
        exact .inr fun r' hr' => by rw [hr] at hr'; injection hr' with hr'; simp [hr']
    · exact .inr fun r' hr' => by simp [h1 r' hr']
  refine ⟨?_, ?_, ?_, fun m hm => key m (h.all1 m hm), ?_, ?_, ?_⟩
  · rw [List.map_append, List.nodup_append]
    refine ⟨h.nodup, by simp, fun a ha c hc => ?_⟩
    simp at hc
    obtain ⟨x, hx, rfl⟩ := List.mem_map.1 ha
    rw [hc, hn]
    exact findR_none ho x hx
  · intro x hx
    rcases List.mem_append.1 hx with hx | hx
    · exact h.sound x hx
    · simp at hx; rw [hx]; exact hreach
  · intro m hm
    rcases List.mem_append.1 hm with hm | hm
    · rcases h.from' m (by simp [hm]) with h1 | ⟨r0, h1, h2⟩
      · exact .inl h1
      · exact .inr ⟨r0, by simp [h1], h2⟩
    · exact .inr ⟨r, by simp, hm⟩
  · intro x hx m hm
    rcases List.mem_append.1 hx with hx | hx
    · exact key m (h.all2 x hx m hm)
    · simp at hx; subst hx; exact .inl (by simp [hm])
  · intro x hx
    rcases List.mem_append.1 hx with hx | hx
    · exact h.sub x hx
    · simp at hx; rw [hx]; exact hmem
  · have := h.size; simp at this ⊢; omega
theorem Work.done {M out : List Rl} {names : List ByteArray} (h : Work M names out []) (r : Rl) : r ∈ out ↔ Reach M names r := by
  constructor
  · exact h.sound r
  · intro hr
    induction hr with
    | start h1 h2 =>
      rcases h.all1 _ h1 with h3 | h3
      · cases h3
      · exact h3 _ h2
    | more h1 h2 h3 ih =>
      rcases h.all2 _ ih _ h2 with h4 | h4
      · cases h4
      · exact h4 _ h3
theorem nodup_len {α : Type} [DecidableEq α] : ∀ (l m : List α), l.Nodup → (∀ x ∈ l, x ∈ m) → l.length ≤ m.length
  | [], _, _, _ => by simp
  | x :: l, m, hn, hs => by
    simp only [List.nodup_cons] at hn
    have h1 := nodup_len l (m.erase x) hn.2 fun y hy => (List.mem_erase_of_ne (by rintro rfl; exact hn.1 hy)).2 (hs y (by simp [hy]))
    have hx : x ∈ m := hs x (by simp)
    have h2 := List.length_erase_of_mem hx
    have h3 := List.length_pos_of_mem hx
    simp only [List.length_cons]; omega
theorem Work.count {M out : List Rl} {names todo : List ByteArray} (h : Work M names out todo) : out.length ≤ M.length := by
  have h1 : (out.map Rl.name).length ≤ (M.map Rl.name).length := by
    refine nodup_len _ _ h.nodup ?_
    intro x hx
    obtain ⟨r, hr, rfl⟩ := List.mem_map.1 hx
    exact List.mem_map_of_mem (h.sub r hr)
  simpa using h1
end Go.Proofs.YtinijohmdljieaaGreatDoor
