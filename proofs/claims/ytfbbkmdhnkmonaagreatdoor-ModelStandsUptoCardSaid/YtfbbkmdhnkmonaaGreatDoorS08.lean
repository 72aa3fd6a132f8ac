/- An order of places, as far as it comes: plain words. What a model is judged by, in plain words. packages model, guard: stage, stone: the number of a name. -/
import Derived.Test.YtfbbkmdhnkmonaaGreatDoorS01
import Derived.Test.YtfbbkmdhnkmonaaGreatDoorS02
import Derived.Test.YtfbbkmdhnkmonaaGreatDoorS07
import Derived.Test.YtfbbkmdhnkmonaaGreatDoorLook0
import Derived.Lib.SliceRun
namespace Go.Proofs.YtfbbkmdhnkmonaaGreatDoor

section
variable {α : Type} [DecidableEq α]
/-- may a place come next? -/
def freeB (lean : α → α → Bool) (l out : List α) (a : α) : Bool := l.all fun b => !lean a b || decide (b ∈ out)
/-- what comes behind out, out of rest, fuel steps at most -/
def ordL (lean : α → α → Bool) (l : List α) : Nat → List α → List α → List α
  | 0, out, _ => out
  | f + 1, out, rest => match rest.findIdx? (freeB lean l out) with
    | none => out
    | some i => match rest[i]? with
      | none => out
      | some a => ordL lean l f (out ++ [a]) (rest.eraseIdx i)
theorem ordL_pre (lean : α → α → Bool) (l : List α) : ∀ (f : Nat) (out rest : List α), ∃ t, ordL lean l f out rest = out ++ t
  | 0, out, _ => ⟨[], by simp [ordL]⟩
  | f + 1, out, rest => by
    simp only [ordL]
    split
    · exact ⟨[], by simp⟩
    · split
      · exact ⟨[], by simp⟩
      · rename_i a _
        obtain ⟨t, ht⟩ := ordL_pre lean l f (out ++ [a]) (rest.eraseIdx _)
        exact ⟨a :: t, by rw [ht]; simp⟩
/-- what the steps keep: out and rest are l, parted; none ahead of what it leans on; of those that could come next the first -/
structure OrdIs (lean : α → α → Bool) (l out rest : List α) : Prop where
  perm : (out ++ rest).Perm l
  ahead : ∀ k (h : k < out.length), freeB lean l (out.take k) out[k] = true
  least : ∀ k (h : k < out.length), ∃ r : List α, r.Perm (out.drop k ++ rest) ∧ r.Sublist l ∧ ∃ i, r.findIdx? (freeB lean l (out.take k)) = some i ∧ r[i]? = some out[k]
  sub : rest.Sublist l
theorem OrdIs.start (lean : α → α → Bool) (l : List α) : OrdIs lean l [] l :=
  ⟨by simp, fun k h => absurd h (by simp), fun k h => absurd h (by simp), List.Sublist.refl _⟩
omit [DecidableEq α] in
theorem perm_erase {rest : List α} {i : Nat} {a : α} (h : rest[i]? = some a) : (a :: rest.eraseIdx i).Perm rest := by
  induction rest generalizing i with
  | nil => simp at h
  | cons x r ih =>
    cases i with
    | zero => simp at h; subst h; simp
    | succ i =>
      simp at h
      rw [List.eraseIdx_cons_succ]
      exact (List.Perm.swap x a _).trans ((ih h).cons x)
theorem OrdIs.next {lean : α → α → Bool} {l out rest : List α} (h : OrdIs lean l out rest) {i : Nat} {a : α} (hi : rest.findIdx? (freeB lean l out) = some i) (ha : rest[i]? = some a) : OrdIs lean l (out ++ [a]) (rest.eraseIdx i) := by
  have hp := perm_erase ha
  have hfree : freeB lean l out a = true := by
    have := List.findIdx?_eq_some_iff_getElem.1 hi
    obtain ⟨h1, h2, -⟩ := this
    rw [List.getElem?_eq_getElem h1] at ha
    injection ha with ha
    rw [← ha]; exact h2
  refine ⟨?_, fun k hk => ?_, fun k hk => ?_, (List.eraseIdx_sublist ..).trans h.sub⟩
  · rw [List.append_assoc]
    exact ((List.Perm.refl out).append hp).trans h.perm
  · rcases Nat.lt_or_ge k out.length with h1 | h1
    · rw [List.getElem_append_left h1, List.take_append_of_le_length (by omega)]
      exact h.ahead k h1
    · have hke : k = out.length := by simp at hk; omega
      subst hke
      rw [List.getElem_append_right (Nat.le_refl _), List.take_append_of_le_length (Nat.le_refl _), List.take_length]
      simpa using hfree
  · rcases Nat.lt_or_ge k out.length with h1 | h1
    · obtain ⟨r, hr1, hr2, i', hr3, hr4⟩ := h.least k h1
      refine ⟨r, ?_, hr2, i', ?_, ?_⟩
      · refine hr1.trans ?_
        rw [List.drop_append_of_le_length (by omega), List.append_assoc]
        exact (List.Perm.refl _).append hp.symm
      · rw [List.take_append_of_le_length (by omega)]; exact hr3
      · rw [List.getElem_append_left h1]; exact hr4
    · have hke : k = out.length := by simp at hk; omega
      subst hke
      refine ⟨rest, ?_, h.sub, i, ?_, ?_⟩
      · rw [List.drop_append_of_le_length (Nat.le_refl _), List.drop_length]
        exact hp.symm
      · rw [List.take_append_of_le_length (Nat.le_refl _), List.take_length]; exact hi
      · rw [List.getElem_append_right (Nat.le_refl _)]; simpa using ha
/-- the steps' end -/
theorem ordL_is (lean : α → α → Bool) (l : List α) : ∀ (f : Nat) (out rest : List α), OrdIs lean l out rest → ∃ rest', OrdIs lean l (ordL lean l f out rest) rest'
  | 0, out, rest, h => ⟨rest, by simpa [ordL] using h⟩
  | f + 1, out, rest, h => by
    simp only [ordL]
    split
    · exact ⟨rest, h⟩
    · rename_i i hi
      split
      · exact ⟨rest, h⟩
      · rename_i a ha
        exact ordL_is lean l f _ _ (h.next hi ha)
theorem freeB_iff {lean : α → α → Bool} {l out : List α} {a : α} : freeB lean l out a = true ↔ ∀ b ∈ l, lean a b = true → b ∈ out := by
  simp only [freeB, List.all_eq_true, Bool.or_eq_true, Bool.not_eq_true', decide_eq_true_eq]
  constructor
  · intro h b hb hl
    rcases h b hb with h1 | h1
    · rw [hl] at h1; cases h1
    · exact h1
  · intro h b hb
    cases hl : lean a b with
    | false => exact .inl rfl
    | true => exact .inr (h b hb hl)
section
variable {lean : α → α → Bool} {l out rest : List α}
/-- each stands once -/
theorem OrdIs.nodup (h : OrdIs lean l out rest) (hl : l.Nodup) : out.Nodup := ((h.perm.nodup_iff).2 hl).sublist (List.sublist_append_left _ _)
theorem OrdIs.mem (h : OrdIs lean l out rest) {a : α} (ha : a ∈ out) : a ∈ l := h.perm.mem_iff.1 (List.mem_append_left _ ha)
theorem OrdIs.all (h : OrdIs lean l out rest) (hlen : out.length = l.length) : rest = [] := by
  have := h.perm.length_eq
  rw [List.length_append] at this
  exact List.eq_nil_of_length_eq_zero (by omega)
omit [DecidableEq α] in
theorem mem_take_lt {out : List α} (hn : out.Nodup) {i k : Nat} (hk : k < out.length) (h : out[k] ∈ out.take i) : k < i := by
  obtain ⟨j, hj, he⟩ := List.mem_iff_getElem.1 h
  rw [List.getElem_take] at he
  have hj2 : j < i ∧ j < out.length := by simp at hj; omega
  have : j = k := (List.getElem_inj hn).1 he
  omega
/-- none ahead of one that it leans on -/
theorem OrdIs.lean_lt (h : OrdIs lean l out rest) (hl : l.Nodup) {i k : Nat} (hi : i < out.length) (hk : k < out.length) (hlean : lean out[i] out[k] = true) : k < i :=
  mem_take_lt (h.nodup hl) hk (freeB_iff.1 (h.ahead i hi) _ (h.mem (List.getElem_mem hk)) hlean)
/-- of those that could come next the least -/
theorem OrdIs.least_of (h : OrdIs lean l out rest) {lt : α → α → Prop} (hs : l.Pairwise lt) (has : ∀ a b, lt a b → ¬ lt b a) {i k free : Nat} (hi : i < out.length) (hki : k < i) (hf : free ≤ k) (hfree : ∀ j (hj : j < out.length), lean out[i] out[j] = true → j < free) : ¬ lt out[i] out[k] := by
  have hk : k < out.length := by omega
  obtain ⟨r, hr1, hr2, i', hr3, hr4⟩ := h.least k hk
  have hir : out[i] ∈ r := hr1.mem_iff.2 (List.mem_append_left _ (List.mem_iff_getElem.2 ⟨i - k, by simp; omega, by rw [List.getElem_drop]; congr 1; omega⟩))
  obtain ⟨j, hj, hje⟩ := List.mem_iff_getElem.1 hir
  obtain ⟨h1, h2, h3⟩ := List.findIdx?_eq_some_iff_getElem.1 hr3
  have hfr : freeB lean l (out.take k) r[j] = true := by
    rw [hje]
    refine freeB_iff.2 fun b hb hlb => ?_
    have hb2 : b ∈ out := List.mem_of_mem_take (freeB_iff.1 (h.ahead i hi) b hb hlb)
    obtain ⟨q, hq, rfl⟩ := List.mem_iff_getElem.1 hb2
    have hq2 := hfree q hq hlb
    exact List.mem_iff_getElem.2 ⟨q, by simp; omega, by rw [List.getElem_take]⟩
  have hij : i' ≤ j := by
    rcases Nat.lt_or_ge j i' with h4 | h4
    · exact absurd hfr (h3 j h4)
    · exact h4
  rw [List.getElem?_eq_getElem h1] at hr4
  injection hr4 with hr4
  rw [← hr4, ← hje]
  rcases Nat.eq_or_lt_of_le hij with h4 | h4
  · subst h4
    intro h5
    exact has _ _ h5 h5
  · have hsr := hs.sublist hr2
    exact has _ _ (List.pairwise_iff_getElem.1 hsr i' j h1 hj h4)
end
end
end Go.Proofs.YtfbbkmdhnkmonaaGreatDoor

namespace Go.Proofs.YtfbbkmdhnkmonaaGreatDoor
open Go.RowKit

/-! What a text is read as. -/
theorem readG_err {s : ByteArray} {f : Nat} {p : Nat} {q : Int} (h : readG s f = some (.error (p, q))) : q ≠ 0 := by
  unfold readG at h
  split at h
  · injection h with h; injection h with h; injection h with h1 h2; omega
  · split at h
    · cases h
    · injection h with h; injection h with h; injection h with h1 h2; omega
    · split at h
      · injection h with h; injection h with h; injection h with h1 h2; omega
      · split at h
        · injection h with h; injection h with h; injection h with h1 h2; omega
        · cases h
open Classical in
/-- what a text is read as; none: refused -/
noncomputable def readOf (s : ByteArray) : Option GT := if h : s.size ≤ 16384 ∧ ∃ t, ∃ f, readG s f = some (.ok t) then some h.2.choose else none
theorem readOf_some {s : ByteArray} {t : GT} : readOf s = some t ↔ s.size ≤ 16384 ∧ ∃ f, readG s f = some (.ok t) := by
  unfold readOf
  split
  · rename_i h
    obtain ⟨f, hf⟩ := h.2.choose_spec
    constructor
    · intro he
      injection he with he
      exact ⟨h.1, f, he ▸ hf⟩
    · rintro ⟨-, f', hf'⟩
      have := readG_fun hf hf'
      injection this with this
      rw [this]
  · rename_i h
    constructor
    · intro he; cases he
    · rintro ⟨h1, f, hf⟩
      exact absurd ⟨h1, t, f, hf⟩ h
theorem readOf_may {s : ByteArray} {t : GT} (h : readOf s = some t) : t.may ∧ t.deep ≤ 32 ∧ t.toGD.size ≤ 60000 := by
  obtain ⟨h1, f, h2⟩ := readOf_some.1 h
  have := readG_mr h2
  exact ⟨this.1, this.2.1, by have := this.2.2.2; omega⟩
/-- an answer, told by readOf -/
theorem ReadA.told {s : ByteArray} {g : GD} {a c : Int} (h : ReadA s g a c) : (∃ t, readOf s = some t ∧ g = t.toGD ∧ c = 0) ∨ (readOf s = none ∧ g = zeroD ∧ c ≠ 0) := by
  unfold ReadA at h
  split at h
  · rename_i hb
    obtain ⟨rfl, -, rfl⟩ := h
    refine .inr ⟨?_, rfl, by decide⟩
    cases hr : readOf s with
    | none => rfl
    | some t => have := (readOf_some.1 hr).1; omega
  · rename_i hb
    obtain ⟨fu, r, h1, h2⟩ := h
    cases r with
    | ok t =>
      obtain ⟨rfl, -, rfl⟩ := h2
      exact .inl ⟨t, readOf_some.2 ⟨by omega, fu, h1⟩, rfl, rfl⟩
    | error p =>
      obtain ⟨p, q⟩ := p
      obtain ⟨rfl, -, rfl⟩ := h2
      refine .inr ⟨?_, rfl, readG_err h1⟩
      cases hr : readOf s with
      | none => rfl
      | some t =>
        obtain ⟨-, f, hf⟩ := readOf_some.1 hr
        have := readG_fun h1 hf
        cases this
def GT.kd : GT → Nat
  | .leaf k _ _ => k
  | .one k _ => k
  | .two k _ _ => k
def GT.tx : GT → ByteArray
  | .leaf _ _ s => s
  | _ => ⟨#[]⟩
theorem toGD_node (t : GT) : ∃ n, t.toGD = .node t.kd n t.tx t.toGD.kids := by
  cases t <;> exact ⟨_, rfl⟩
/-- is a text a name? -/
noncomputable def namedB (s : ByteArray) : Bool := match readOf s with
  | none => false
  | some t => decide (t.kd = 5) && (t.tx.toList == s.toList)

/-- no list longer than a machine holds -/
structure ModelD.Sml (m : ModelD) : Prop where
  attrs : m.attrs.length ≤ 1048576
  events : m.events.length ≤ 1048576
  stages : m.stages.length ≤ 1048576
  stones : m.stones.length ≤ 1048576
  apart : m.apart.length ≤ 1048576
  inS : ∀ s ∈ m.stages, s.opens.length ≤ 1048576 ∧ s.closes.length ≤ 1048576
  inT : ∀ s ∈ m.stones, s.done.length ≤ 1048576 ∧ s.undo.length ≤ 1048576

/-! Numbers of names. -/
/-- the number of the first that is so; -1: none -/
def ixOf {α : Type} (q : α → Bool) (l : List α) : Int := match l.findIdx? q with
  | some i => (i : Int)
  | none => -1
def stageIx (md : ModelD) (s : ByteArray) : Int := ixOf (fun x : StageD => x.name.toList == s.toList) md.stages
def stoneIx (md : ModelD) (s : ByteArray) : Int := ixOf (fun x : StoneD => x.name.toList == s.toList) md.stones
def attrIx (md : ModelD) (s : ByteArray) : Int := ixOf (fun x : AttrD => x.name.toList == s.toList) md.attrs
theorem ixOf_le {α : Type} (q : α → Bool) (l : List α) : -1 ≤ ixOf q l ∧ ixOf q l < l.length := by
  unfold ixOf
  split
  · rename_i i h
    have := (List.findIdx?_eq_some_iff_getElem.1 h).1
    omega
  · omega
/-- a guard's kind, or a code: (kind, code) -/
def judg (md : ModelD) : GT → Int × Int
  | .leaf k _ s =>
    if k = 3 then (2, 0) else if k = 4 then (3, 0)
    else if k = 5 then (if attrIx md s < 0 then (0, 6) else match md.attrs[(attrIx md s).toNat]? with
      | none => (0, 6)
      | some a => if a.kind < 1 ∨ 3 < a.kind then (0, 171) else (a.kind, 0))
    else if k = 6 then (if stageIx md s < 0 then (0, 6) else (1, 0))
    else if k = 7 then (if stoneIx md s < 0 then (0, 6) else (1, 0))
    else (1, 0)
  | .one _ a => if (judg md a).2 ≠ 0 then (0, (judg md a).2) else if (judg md a).1 = 1 then (1, 0) else (0, 171)
  | .two k a b =>
    if (judg md a).2 ≠ 0 then (0, (judg md a).2) else if (judg md b).2 ≠ 0 then (0, (judg md b).2)
    else if k = 9 ∨ k = 10 then (if (judg md a).1 = 1 ∧ (judg md b).1 = 1 then (1, 0) else (0, 171))
    else if k = 11 then (if (judg md b).1 = (judg md a).1 then (1, 0) else (0, 171))
    else if (judg md a).1 = 2 ∧ (judg md b).1 = 2 then (if k = 12 then 1 else 2, 0) else (0, 171)
/-- the names of one kind in a guard -/
def namesOf (kind : Nat) : GT → List ByteArray
  | .leaf k _ s => if k = kind then [s] else []
  | .one _ a => namesOf kind a
  | .two _ a b => namesOf kind a ++ namesOf kind b

/-! The judgement. -/
/-- is a text empty, or a guard that is a truth? -/
noncomputable def truthB (md : ModelD) (s : ByteArray) : Bool := if s.size = 0 then true else match readOf s with
  | none => false
  | some t => decide (judg md t = (1, 0))
def hasB (l : List ByteArray) (s : ByteArray) : Bool := l.any (fun e => e.toList == s.toList)
def eventB (md : ModelD) (s : ByteArray) : Bool := hasB md.events s || (decide (0 ≤ stageIx md s) && match md.stages[(stageIx md s).toNat]? with
  | none => false
  | some x => decide (x.role.size ≠ 0))
/-- may a sentry be? -/
noncomputable def sentryB (md : ModelD) (s : SentryD) : Bool :=
  (if s.on = 0 then decide (s.name.size = 0) else if s.on = 1 then eventB md s.name else if s.on = 2 ∨ s.on = 3 then decide (0 ≤ stageIx md s.name) else if s.on = 4 ∨ s.on = 5 then decide (0 ≤ stoneIx md s.name) else false) && truthB md s.cond
/-- are all names, none twice? -/
noncomputable def rowB (l : List ByteArray) : Bool := decide l.Nodup && l.all namedB
/-- may a stage be? -/
noncomputable def stagedB (md : ModelD) (n : Nat) (s : StageD) : Bool :=
  if s.inn < -1 ∨ (n : Int) ≤ s.inn ∨ (s.role.size ≠ 0 ∧ namedB s.role = false) ∨ s.aft < 0 ∨ 1099511627776 < s.aft then false
  else if s.aft = 0 then decide (s.event.size = 0) else hasB md.events s.event
noncomputable def builtB (md : ModelD) : Bool :=
  rowB (md.attrs.map AttrD.name) && rowB (md.events ++ md.stages.map StageD.name) && rowB (md.stones.map StoneD.name) && !md.attrs.any (fun a => decide (a.kind < 1 ∨ 3 < a.kind)) &&
  (List.range md.stages.length).all (fun n => match md.stages[n]? with | none => true | some s => stagedB md n s) &&
  (md.stages.all fun s => s.opens.all (sentryB md) && s.closes.all (sentryB md)) && (md.stones.all fun s => s.done.all (sentryB md) && s.undo.all (sentryB md)) &&
  !md.apart.any (fun p => !namedB p.1 || !namedB p.2 || p.1.toList == p.2.toList)
def manyN (md : ModelD) : Nat := (md.stages.map fun s => s.opens.length + s.closes.length).sum + (md.stones.map fun s => s.done.length + s.undo.length).sum
def tooMany (md : ModelD) : Prop := 32 < md.attrs.length ∨ 32 < md.events.length ∨ 32 < md.stages.length ∨ 32 < md.stones.length ∨ 32 < md.apart.length ∨ 128 < manyN md
instance (md : ModelD) : Decidable (tooMany md) := by unfold tooMany; infer_instance

/-! Places. -/
abbrev Pl := Int × Int × Int
/-- the sentries of a kind and a number -/
def senL (md : ModelD) (k n : Int) : List SentryD :=
  if n < 0 then [] else if k = 1 then ((md.stages[n.toNat]?).map StageD.opens).getD [] else if k = 2 then ((md.stages[n.toNat]?).map StageD.closes).getD [] else if k = 3 then ((md.stones[n.toNat]?).map StoneD.done).getD [] else if k = 4 then ((md.stones[n.toNat]?).map StoneD.undo).getD [] else []
def senAt (md : ModelD) (p : Pl) : Option SentryD := if p.2.2 < 0 then none else (senL md p.1 p.2.1)[p.2.2.toNat]?
def placesL (md : ModelD) : List Pl :=
  ([1, 2, 3, 4] : List Int).flatMap fun k => (List.range (max md.stages.length md.stones.length)).flatMap fun (n : Nat) => (List.range (senL md k (n : Int)).length).map fun (i : Nat) => (k, (n : Int), (i : Int))
/-- does a stage stand within another one, or is it that? fuel: the stages' number and one -/
def withinF (md : ModelD) (other : Int) : Nat → Int → Bool
  | 0, _ => false
  | f + 1, n => if n < 0 then false else if n = other then true else match md.stages[n.toNat]? with
    | none => false
    | some s => withinF md other f s.inn
def withinB (md : ModelD) (n other : Int) : Bool := withinF md other (md.stages.length + 1) n
/-- does a place turn a stage? -/
def turnsB (md : ModelD) (p : Pl) (n : Int) (opens closes : Bool) : Bool := (opens && (decide (p.1 = 1) && decide (p.2.1 = n))) || (closes && (decide (p.1 = 2) && withinB md n p.2.1))
/-- what a guard leans on -/
noncomputable def condB (md : ModelD) (b : Pl) (c : ByteArray) : Bool := if c.size = 0 then false else match readOf c with
  | none => false
  | some t => (namesOf 6 t).any (fun n => turnsB md b (stageIx md n) true true) || (decide (2 < b.1) && (namesOf 7 t).any (fun n => decide (b.2.1 = stoneIx md n)))
/-- does the sentry of a place lean on what another place brings about? -/
noncomputable def leansS (md : ModelD) (a b : Pl) (s : SentryD) : Bool :=
  (decide (s.on = 2 ∨ s.on = 3) && turnsB md b (stageIx md s.name) (decide (s.on = 2)) (decide (s.on = 3))) ||
  (decide (s.on = 4 ∨ s.on = 5) && (decide (b.1 = s.on - 1) && decide (b.2.1 = stoneIx md s.name))) ||
  (decide (a.1 = 1) && match md.stages[a.2.1.toNat]? with
    | none => false
    | some x => decide (0 ≤ x.inn) && turnsB md b x.inn true true) ||
  condB md b s.cond
noncomputable def leansB (md : ModelD) (a b : Pl) : Bool := match senAt md a with
  | none => false
  | some s => leansS md a b s
/-- the order, as far as it comes -/
noncomputable def orderL (md : ModelD) : List Pl := ordL (leansB md) (placesL md) (placesL md).length [] (placesL md)
noncomputable def checkE (md : ModelD) : Int :=
  if namedB md.name = false then 5 else if tooMany md then 4 else if builtB md = false then 180 else if (orderL md).length < (placesL md).length then 181 else 0
end Go.Proofs.YtfbbkmdhnkmonaaGreatDoor

namespace Go.Proofs.YtfbbkmdhnkmonaaGreatDoor
open Go.RowKit

theorem list_of' {α : Type} [Inhabited α] (Q : Nat → α → Prop) : ∀ (n : Nat) (_ : ∀ j, j < n → ∃ x, Q j x), ∃ zs : List α, zs.length = n ∧ ∀ j, j < n → Q j zs[j]!
  | 0, _ => ⟨[], rfl, fun j hj => absurd hj (Nat.not_lt_zero _)⟩
  | n + 1, h => by
    obtain ⟨zs, hl, hz⟩ := list_of' Q n fun j hj => h j (by omega)
    obtain ⟨x, hx⟩ := h n (by omega)
    refine ⟨zs ++ [x], by simp [hl], fun j hj => ?_⟩
    rcases Nat.lt_or_ge j n with h1 | h1
    · rw [getElem!_pos (zs ++ [x]) j (by simp [hl]; omega), List.getElem_append_left (by omega), ← getElem!_pos zs j (by omega)]
      exact hz j h1
    · obtain rfl : j = n := by omega
      rw [getElem!_pos (zs ++ [x]) j (by simp [hl]), List.getElem_append_right (by omega)]
      simpa [hl] using hx
theorem idx_ixOf {α β : Type} (p : α → Bool) (q : β → Bool) (d : α) : ∀ (zs : List α) (l : List β) (i : Nat) (_ : zs.length = l.length) (_ : ∀ j (h : j < zs.length) (h' : j < l.length), p zs[j] = q l[j]), Lib.idxByFrom (fun _ y => p y) d zs i = (match l.findIdx? q with | some j => ((i + j : Nat) : Int) | none => -1)
  | [], [], _, _, _ => rfl
  | z :: zs, x :: l, i, hl, h => by
    have h0 := h 0 (by simp) (by simp)
    simp only [List.getElem_cons_zero] at h0
    simp only [Lib.idxByFrom, h0, List.findIdx?_cons]
    cases q x with
    | true => simp
    | false =>
      have ih := idx_ixOf p q d zs l (i + 1) (by simpa using hl) fun j h1 h2 => by have := h (j + 1) (by simpa using h1) (by simpa using h2); simpa only [List.getElem_cons_succ] using this
      simp only [Bool.false_eq_true, if_false, ih]
      cases l.findIdx? q with
      | none => rfl
      | some j =>
        show ((i + 1 + j : Nat) : Int) = ((i + (j + 1) : Nat) : Int)
        congr 1
        omega
theorem idx_ix {α β : Type} (p : α → Bool) (q : β → Bool) (d : α) (zs : List α) (l : List β) (hl : zs.length = l.length) (h : ∀ j (h : j < zs.length) (h' : j < l.length), p zs[j] = q l[j]) : Lib.idxBy (fun _ y => p y) zs d = ixOf q l := by
  have := idx_ixOf p q d zs l 0 hl h
  unfold Lib.idxBy ixOf
  rw [this]
  cases l.findIdx? q with
  | none => rfl
  | some j => simp
structure StageRow where
  nm : ByteArray
  x1 : Value
  x2 : Value
  x3 : Value
  x4 : Value
  x5 : Value
  x6 : Value
def StageRow.cs (r : StageRow) : List Value := [.string r.nm, r.x1, r.x2, r.x3, r.x4, r.x5, r.x6]
instance : Inhabited StageRow := ⟨⟨⟨#[]⟩, undef, undef, undef, undef, undef, undef⟩⟩
set_option maxHeartbeats 4000000 in
set_option maxRecDepth 100000 in
theorem ixStageM (f : FuncId) (lb : Array Value) (eg : ∀ args w, (callFunc f args).run Tryz.prog w = .ok (.enter f args) w) (l : List StageD) (name : ByteArray) (a : Option Addr) (c : Nat) (w : World) (hl : l.length ≤ 1048576) (h : Mem false (From 0) w (.list 7 (l.map StageD.ds)) (.slice a l.length c))
    (hp : PredBelow Tryz.prog f lb (fun x => .agg (StageRow.cs x).toArray) (fun x => x.nm.toList == name.toList) w) :
    Calls Tryz.prog 74 #[.slice a l.length c, .func (.func f) #[] lb] w fun e w' => e = .returned (.int .i64 (ixOf (fun x : StageD => x.name.toList == name.toList) l)) ∧ Below w.heap.size w w' := by
  obtain ⟨_, _, b, off, hv, -, hC⟩ := rec_open h
  injection hv with e1 e2 e3
  subst e1 e3
  by_cases h0 : l.length = 0
  · have hnil : l = [] := List.eq_nil_of_length_eq_zero h0
    subst hnil
    clear h hC hp
    go_enter Tryz.func74, Tryz.ntmps74
    go_wp2_with fail
    go_loopw [8] (fun i wr => i = .int .i64 0 ∧ wr = w) (fun _ _ => 0)
    case atStart => exact ⟨rfl, rfl⟩
    case round =>
      obtain ⟨rfl, rfl⟩ := hrel
      go_wp2_with fail
      go_ret
      exact ⟨rfl, Below.refl _ _⟩
  · obtain ⟨rfl, -, hbl⟩ := hC.at0 (by omega)
    obtain ⟨zs, hzl, hz⟩ := list_of' (fun (j : Nat) (x : StageRow) => ∀ (hj : j < l.length), x.nm = l[j].name ∧ ∀ i v, x.cs[i]? = some v → w.cell? ⟨b, off + j * 7 + i, none⟩ = some v) l.length fun j hj => by
      obtain ⟨us, hus, hcell⟩ := hC.row j hj
      obtain ⟨d1, e1, d2, e2, hu, -⟩ := StageD.cells hus
      subst hu
      exact ⟨⟨l[j].name, .int .i64 l[j].inn, .slice d1 l[j].opens.length e1, .slice d2 l[j].closes.length e2, .string l[j].role, .int .i64 l[j].aft, .string l[j].event⟩, fun _ => ⟨rfl, fun i v hi => hcell i v hi⟩⟩
    have hcon := AnyQ.slices_IndexFunc Tryz.ixStage 7 Tryz.isAgg38 Tryz.sizeOf38 StageRow.cs (fun _ => rfl) (fun x => x.nm.toList == name.toList) f lb eg b off l.length c zs w
      hp (by omega) (by omega) hbl (fun j hj i v hi => (hz j (by omega) (by omega)).2 i v hi)
    have hix : Lib.idxBy (fun _ (y : StageRow) => y.nm.toList == name.toList) (zs.take l.length) default = ixOf (fun x : StageD => x.name.toList == name.toList) l := by
      rw [← hzl, List.take_length]
      refine idx_ix (fun y : StageRow => y.nm.toList == name.toList) (fun x : StageD => x.name.toList == name.toList) default zs l hzl fun j h1 h2 => ?_
      have := (hz j (by omega) h2).1
      rw [getElem!_pos zs j h1] at this
      rw [this]
    rw [hix] at hcon
    exact hcon
set_option maxHeartbeats 2000000 in
set_option maxRecDepth 100000 in
theorem modelStageCl (name : ByteArray) (B : Nat) (w : World) (hB : B < w.heap.size) (hcell : w.cell? ⟨B, 0, none⟩ = some (.string name)) : PredBelow Tryz.prog 75 #[.pointer (some ⟨B, 0, none⟩)] (fun x => .agg (StageRow.cs x).toArray) (fun x => x.nm.toList == name.toList) w := fun W x hb => by
  have hc : W.cell? ⟨B, 0, none⟩ = some (.string name) := (hb.cell (p := ⟨B, 0, none⟩) hB).trans hcell
  have hBW : B < W.heap.size := Nat.lt_of_lt_of_le hB hb.size
  have hne : B ≠ W.heap.size := by omega
  show Calls Tryz.prog 75 #[.agg #[.string x.nm, x.x1, x.x2, x.x3, x.x4, x.x5, x.x6], .pointer (some ⟨B, 0, none⟩)] W _
  go_enter Tryz.func75, Tryz.ntmps75
  go_wp2_with fail
  go_ret
  exact ⟨rfl, hb.alloc hb.size _⟩
set_option maxHeartbeats 4000000 in
set_option maxRecDepth 100000 in
theorem modelStage (md : ModelD) (v : ModelV) (name : ByteArray) (w : World) (hl : md.stages.length ≤ 1048576) (hm : ModelM false (From 0) w md v) :
    Calls Tryz.prog 35 #[.agg (v.cs md).toArray, .string name] w fun e w' => e = .returned (.int .i64 (stageIx md name)) ∧ Below w.heap.size w w' := by
  have eg : ∀ args w, (callFunc 75 args).run Tryz.prog w = .ok (.enter 75 args) w := enters_of Tryz.func75 (by kernel_rfl) rfl
  have HI := Lib.hid (fun W (hb : Below w.heap.size w W) (B : Nat) (hc : W.cell? ⟨B, 0, none⟩ = some (.string name)) => ixStageM 75 #[.pointer (some ⟨B, 0, none⟩)] eg md.stages name _ _ W hl (hm.stages.grow hb) (modelStageCl name B W (World.block_lt_of_cell? W _ hc) hc))
  have HQ : Hid (ixOf (fun x : StageD => x.name.toList == name.toList) md.stages = stageIx md name) := rfl
  clear hm
  go_enter Tryz.func35, Tryz.ntmps35
  go_wp2_with fail
  have hc0 := (Arr.new (w.alloc (.cells (v.cs md).toArray 31)) [.string name] 9).cell (j := 0) (by simp)
  rw [size_alloc] at hc0
  refine (HI.out _ (((Below.refl w.heap.size w).alloc (Nat.le_refl _) _).alloc (by rw [size_alloc]; omega) _) _ hc0).mono ?_
  rintro e w2 ⟨rfl, hb2⟩
  have HB2 := Lib.hid ((((Below.refl w.heap.size w).alloc (Nat.le_refl _) _).alloc (by rw [size_alloc]; omega) _).trans (hb2.mono (by rw [size_alloc, size_alloc]; omega)))
  rw [HQ.out]
  clear hb2 HI hc0
  go_wp2_with fail
  go_ret
  exact ⟨rfl, HB2.out⟩
set_option maxHeartbeats 2000000 in
set_option maxRecDepth 100000 in
theorem guardStageCl (name : ByteArray) (B : Nat) (w : World) (hB : B < w.heap.size) (hcell : w.cell? ⟨B, 0, none⟩ = some (.string name)) : PredBelow Tryz.prog 237 #[.pointer (some ⟨B, 0, none⟩)] (fun x => .agg (StageRow.cs x).toArray) (fun x => x.nm.toList == name.toList) w := fun W x hb => by
  have hc : W.cell? ⟨B, 0, none⟩ = some (.string name) := (hb.cell (p := ⟨B, 0, none⟩) hB).trans hcell
  have hBW : B < W.heap.size := Nat.lt_of_lt_of_le hB hb.size
  have hne : B ≠ W.heap.size := by omega
  show Calls Tryz.prog 237 #[.agg #[.string x.nm, x.x1, x.x2, x.x3, x.x4, x.x5, x.x6], .pointer (some ⟨B, 0, none⟩)] W _
  go_enter Tryz.func237, Tryz.ntmps237
  go_wp2_with fail
  go_ret
  exact ⟨rfl, hb.alloc hb.size _⟩
set_option maxHeartbeats 4000000 in
set_option maxRecDepth 100000 in
theorem guardStage (md : ModelD) (v : ModelV) (name : ByteArray) (w : World) (hl : md.stages.length ≤ 1048576) (hm : ModelM false (From 0) w md v) :
    Calls Tryz.prog 235 #[.agg (v.cs md).toArray, .string name] w fun e w' => e = .returned (.int .i64 (stageIx md name)) ∧ Below w.heap.size w w' := by
  have eg : ∀ args w, (callFunc 237 args).run Tryz.prog w = .ok (.enter 237 args) w := enters_of Tryz.func237 (by kernel_rfl) rfl
  have HI := Lib.hid (fun W (hb : Below w.heap.size w W) (B : Nat) (hc : W.cell? ⟨B, 0, none⟩ = some (.string name)) => ixStageM 237 #[.pointer (some ⟨B, 0, none⟩)] eg md.stages name _ _ W hl (hm.stages.grow hb) (guardStageCl name B W (World.block_lt_of_cell? W _ hc) hc))
  have HQ : Hid (ixOf (fun x : StageD => x.name.toList == name.toList) md.stages = stageIx md name) := rfl
  clear hm
  go_enter Tryz.func235, Tryz.ntmps235
  go_wp2_with fail
  have hc0 := (Arr.new (w.alloc (.cells (v.cs md).toArray 31)) [.string name] 9).cell (j := 0) (by simp)
  rw [size_alloc] at hc0
  refine (HI.out _ (((Below.refl w.heap.size w).alloc (Nat.le_refl _) _).alloc (by rw [size_alloc]; omega) _) _ hc0).mono ?_
  rintro e w2 ⟨rfl, hb2⟩
  have HB2 := Lib.hid ((((Below.refl w.heap.size w).alloc (Nat.le_refl _) _).alloc (by rw [size_alloc]; omega) _).trans (hb2.mono (by rw [size_alloc, size_alloc]; omega)))
  rw [HQ.out]
  clear hb2 HI hc0
  go_wp2_with fail
  go_ret
  exact ⟨rfl, HB2.out⟩
structure StoneRow where
  nm : ByteArray
  x1 : Value
  x2 : Value
def StoneRow.cs (r : StoneRow) : List Value := [.string r.nm, r.x1, r.x2]
instance : Inhabited StoneRow := ⟨⟨⟨#[]⟩, undef, undef⟩⟩
set_option maxHeartbeats 4000000 in
set_option maxRecDepth 100000 in
theorem ixStoneM (f : FuncId) (lb : Array Value) (eg : ∀ args w, (callFunc f args).run Tryz.prog w = .ok (.enter f args) w) (l : List StoneD) (name : ByteArray) (a : Option Addr) (c : Nat) (w : World) (hl : l.length ≤ 1048576) (h : Mem false (From 0) w (.list 3 (l.map StoneD.ds)) (.slice a l.length c))
    (hp : PredBelow Tryz.prog f lb (fun x => .agg (StoneRow.cs x).toArray) (fun x => x.nm.toList == name.toList) w) :
    Calls Tryz.prog 76 #[.slice a l.length c, .func (.func f) #[] lb] w fun e w' => e = .returned (.int .i64 (ixOf (fun x : StoneD => x.name.toList == name.toList) l)) ∧ Below w.heap.size w w' := by
  obtain ⟨_, _, b, off, hv, -, hC⟩ := rec_open h
  injection hv with e1 e2 e3
  subst e1 e3
  by_cases h0 : l.length = 0
  · have hnil : l = [] := List.eq_nil_of_length_eq_zero h0
    subst hnil
    clear h hC hp
    go_enter Tryz.func76, Tryz.ntmps76
    go_wp2_with fail
    go_loopw [8] (fun i wr => i = .int .i64 0 ∧ wr = w) (fun _ _ => 0)
    case atStart => exact ⟨rfl, rfl⟩
    case round =>
      obtain ⟨rfl, rfl⟩ := hrel
      go_wp2_with fail
      go_ret
      exact ⟨rfl, Below.refl _ _⟩
  · obtain ⟨rfl, -, hbl⟩ := hC.at0 (by omega)
    obtain ⟨zs, hzl, hz⟩ := list_of' (fun (j : Nat) (x : StoneRow) => ∀ (hj : j < l.length), x.nm = l[j].name ∧ ∀ i v, x.cs[i]? = some v → w.cell? ⟨b, off + j * 3 + i, none⟩ = some v) l.length fun j hj => by
      obtain ⟨us, hus, hcell⟩ := hC.row j hj
      obtain ⟨d1, e1, d2, e2, hu, -⟩ := StoneD.cells hus
      subst hu
      exact ⟨⟨l[j].name, .slice d1 l[j].done.length e1, .slice d2 l[j].undo.length e2⟩, fun _ => ⟨rfl, fun i v hi => hcell i v hi⟩⟩
    have hcon := AnyQ.slices_IndexFunc Tryz.ixStone 3 Tryz.isAgg58 Tryz.sizeOf58 StoneRow.cs (fun _ => rfl) (fun x => x.nm.toList == name.toList) f lb eg b off l.length c zs w
      hp (by omega) (by omega) hbl (fun j hj i v hi => (hz j (by omega) (by omega)).2 i v hi)
    have hix : Lib.idxBy (fun _ (y : StoneRow) => y.nm.toList == name.toList) (zs.take l.length) default = ixOf (fun x : StoneD => x.name.toList == name.toList) l := by
      rw [← hzl, List.take_length]
      refine idx_ix (fun y : StoneRow => y.nm.toList == name.toList) (fun x : StoneD => x.name.toList == name.toList) default zs l hzl fun j h1 h2 => ?_
      have := (hz j (by omega) h2).1
      rw [getElem!_pos zs j h1] at this
      rw [this]
    rw [hix] at hcon
    exact hcon
set_option maxHeartbeats 2000000 in
set_option maxRecDepth 100000 in
theorem modelStoneCl (name : ByteArray) (B : Nat) (w : World) (hB : B < w.heap.size) (hcell : w.cell? ⟨B, 0, none⟩ = some (.string name)) : PredBelow Tryz.prog 77 #[.pointer (some ⟨B, 0, none⟩)] (fun x => .agg (StoneRow.cs x).toArray) (fun x => x.nm.toList == name.toList) w := fun W x hb => by
  have hc : W.cell? ⟨B, 0, none⟩ = some (.string name) := (hb.cell (p := ⟨B, 0, none⟩) hB).trans hcell
  have hBW : B < W.heap.size := Nat.lt_of_lt_of_le hB hb.size
  have hne : B ≠ W.heap.size := by omega
  show Calls Tryz.prog 77 #[.agg #[.string x.nm, x.x1, x.x2], .pointer (some ⟨B, 0, none⟩)] W _
  go_enter Tryz.func77, Tryz.ntmps77
  go_wp2_with fail
  go_ret
  exact ⟨rfl, hb.alloc hb.size _⟩
set_option maxHeartbeats 4000000 in
set_option maxRecDepth 100000 in
theorem modelStone (md : ModelD) (v : ModelV) (name : ByteArray) (w : World) (hl : md.stones.length ≤ 1048576) (hm : ModelM false (From 0) w md v) :
    Calls Tryz.prog 36 #[.agg (v.cs md).toArray, .string name] w fun e w' => e = .returned (.int .i64 (stoneIx md name)) ∧ Below w.heap.size w w' := by
  have eg : ∀ args w, (callFunc 77 args).run Tryz.prog w = .ok (.enter 77 args) w := enters_of Tryz.func77 (by kernel_rfl) rfl
  have HI := Lib.hid (fun W (hb : Below w.heap.size w W) (B : Nat) (hc : W.cell? ⟨B, 0, none⟩ = some (.string name)) => ixStoneM 77 #[.pointer (some ⟨B, 0, none⟩)] eg md.stones name _ _ W hl (hm.stones.grow hb) (modelStoneCl name B W (World.block_lt_of_cell? W _ hc) hc))
  have HQ : Hid (ixOf (fun x : StoneD => x.name.toList == name.toList) md.stones = stoneIx md name) := rfl
  clear hm
  go_enter Tryz.func36, Tryz.ntmps36
  go_wp2_with fail
  have hc0 := (Arr.new (w.alloc (.cells (v.cs md).toArray 31)) [.string name] 9).cell (j := 0) (by simp)
  rw [size_alloc] at hc0
  refine (HI.out _ (((Below.refl w.heap.size w).alloc (Nat.le_refl _) _).alloc (by rw [size_alloc]; omega) _) _ hc0).mono ?_
  rintro e w2 ⟨rfl, hb2⟩
  have HB2 := Lib.hid ((((Below.refl w.heap.size w).alloc (Nat.le_refl _) _).alloc (by rw [size_alloc]; omega) _).trans (hb2.mono (by rw [size_alloc, size_alloc]; omega)))
  rw [HQ.out]
  clear hb2 HI hc0
  go_wp2_with fail
  go_ret
  exact ⟨rfl, HB2.out⟩
set_option maxHeartbeats 2000000 in
set_option maxRecDepth 100000 in
theorem guardStoneCl (name : ByteArray) (B : Nat) (w : World) (hB : B < w.heap.size) (hcell : w.cell? ⟨B, 0, none⟩ = some (.string name)) : PredBelow Tryz.prog 238 #[.pointer (some ⟨B, 0, none⟩)] (fun x => .agg (StoneRow.cs x).toArray) (fun x => x.nm.toList == name.toList) w := fun W x hb => by
  have hc : W.cell? ⟨B, 0, none⟩ = some (.string name) := (hb.cell (p := ⟨B, 0, none⟩) hB).trans hcell
  have hBW : B < W.heap.size := Nat.lt_of_lt_of_le hB hb.size
  have hne : B ≠ W.heap.size := by omega
  show Calls Tryz.prog 238 #[.agg #[.string x.nm, x.x1, x.x2], .pointer (some ⟨B, 0, none⟩)] W _
  go_enter Tryz.func238, Tryz.ntmps238
  go_wp2_with fail
  go_ret
  exact ⟨rfl, hb.alloc hb.size _⟩
set_option maxHeartbeats 4000000 in
set_option maxRecDepth 100000 in
theorem guardStone (md : ModelD) (v : ModelV) (name : ByteArray) (w : World) (hl : md.stones.length ≤ 1048576) (hm : ModelM false (From 0) w md v) :
    Calls Tryz.prog 236 #[.agg (v.cs md).toArray, .string name] w fun e w' => e = .returned (.int .i64 (stoneIx md name)) ∧ Below w.heap.size w w' := by
  have eg : ∀ args w, (callFunc 238 args).run Tryz.prog w = .ok (.enter 238 args) w := enters_of Tryz.func238 (by kernel_rfl) rfl
  have HI := Lib.hid (fun W (hb : Below w.heap.size w W) (B : Nat) (hc : W.cell? ⟨B, 0, none⟩ = some (.string name)) => ixStoneM 238 #[.pointer (some ⟨B, 0, none⟩)] eg md.stones name _ _ W hl (hm.stones.grow hb) (guardStoneCl name B W (World.block_lt_of_cell? W _ hc) hc))
  have HQ : Hid (ixOf (fun x : StoneD => x.name.toList == name.toList) md.stones = stoneIx md name) := rfl
  clear hm
  go_enter Tryz.func236, Tryz.ntmps236
  go_wp2_with fail
  have hc0 := (Arr.new (w.alloc (.cells (v.cs md).toArray 31)) [.string name] 9).cell (j := 0) (by simp)
  rw [size_alloc] at hc0
  refine (HI.out _ (((Below.refl w.heap.size w).alloc (Nat.le_refl _) _).alloc (by rw [size_alloc]; omega) _) _ hc0).mono ?_
  rintro e w2 ⟨rfl, hb2⟩
  have HB2 := Lib.hid ((((Below.refl w.heap.size w).alloc (Nat.le_refl _) _).alloc (by rw [size_alloc]; omega) _).trans (hb2.mono (by rw [size_alloc, size_alloc]; omega)))
  rw [HQ.out]
  clear hb2 HI hc0
  go_wp2_with fail
  go_ret
  exact ⟨rfl, HB2.out⟩
instance : Inhabited AttrD := ⟨⟨⟨#[]⟩, 0⟩⟩
set_option maxHeartbeats 4000000 in
set_option maxRecDepth 100000 in
theorem ixAttrM (f : FuncId) (lb : Array Value) (eg : ∀ args w, (callFunc f args).run Tryz.prog w = .ok (.enter f args) w) (l : List AttrD) (name : ByteArray) (a : Option Addr) (c : Nat) (w : World) (hl : l.length ≤ 1048576) (h : Mem false (From 0) w (flatL 2 AttrD.cs l) (.slice a l.length c))
    (hp : PredBelow Tryz.prog f lb (fun x => .agg (AttrD.cs x).toArray) (fun x => x.name.toList == name.toList) w) :
    Calls Tryz.prog 87 #[.slice a l.length c, .func (.func f) #[] lb] w fun e w' => e = .returned (.int .i64 (ixOf (fun x : AttrD => x.name.toList == name.toList) l)) ∧ Below w.heap.size w w' := by
  obtain ⟨_, _, b, off, hv, -, hC⟩ := flat_open h
  injection hv with e1 e2 e3
  subst e1 e3
  by_cases h0 : l.length = 0
  · have hnil : l = [] := List.eq_nil_of_length_eq_zero h0
    subst hnil
    clear h hC hp
    go_enter Tryz.func87, Tryz.ntmps87
    go_wp2_with fail
    go_loopw [8] (fun i wr => i = .int .i64 0 ∧ wr = w) (fun _ _ => 0)
    case atStart => exact ⟨rfl, rfl⟩
    case round =>
      obtain ⟨rfl, rfl⟩ := hrel
      go_wp2_with fail
      go_ret
      exact ⟨rfl, Below.refl _ _⟩
  · obtain ⟨rfl, -, hbl⟩ := hC.at0 (by omega)
    have hcon := AnyQ.slices_IndexFunc Tryz.ixAttr 2 Tryz.isAgg61 Tryz.sizeOf61 AttrD.cs (fun _ => rfl) (fun x => x.name.toList == name.toList) f lb eg b off l.length c l w
      hp (by omega) (by omega) hbl (fun j hj i v hi => hC.cell j hj i v (by rw [getElem!_pos l j hj] at hi; exact hi))
    have hix : Lib.idxBy (fun _ (y : AttrD) => y.name.toList == name.toList) (l.take l.length) default = ixOf (fun x : AttrD => x.name.toList == name.toList) l := by
      rw [List.take_length]
      exact idx_ix (fun y : AttrD => y.name.toList == name.toList) (fun x : AttrD => x.name.toList == name.toList) default l l rfl fun j h1 h2 => rfl
    rw [hix] at hcon
    exact hcon
set_option maxHeartbeats 2000000 in
set_option maxRecDepth 100000 in
theorem attrCl (name : ByteArray) (B : Nat) (w : World) (hB : B < w.heap.size) (hcell : w.cell? ⟨B, 2, none⟩ = some (.string name)) : PredBelow Tryz.prog 234 #[.pointer (some ⟨B, 0, none⟩)] (fun x => .agg (AttrD.cs x).toArray) (fun x => x.name.toList == name.toList) w := fun W x hb => by
  have hc : W.cell? ⟨B, 2, none⟩ = some (.string name) := (hb.cell (p := ⟨B, 2, none⟩) hB).trans hcell
  have hBW : B < W.heap.size := Nat.lt_of_lt_of_le hB hb.size
  have hne : B ≠ W.heap.size := by omega
  show Calls Tryz.prog 234 #[.agg #[.string x.name, .int .u8 x.kind], .pointer (some ⟨B, 0, none⟩)] W _
  go_enter Tryz.func234, Tryz.ntmps234
  go_wp2_with fail
  go_ret
  exact ⟨rfl, hb.alloc hb.size _⟩
end Go.Proofs.YtfbbkmdhnkmonaaGreatDoor
