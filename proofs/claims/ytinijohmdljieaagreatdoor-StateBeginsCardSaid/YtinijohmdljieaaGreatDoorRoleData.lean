/- Roles as data, and as they lie in memory. -/
import Derived.Test.YtinijohmdljieaaGreatDoorMap
namespace Go.Proofs.YtinijohmdljieaaGreatDoor
open Go.RowKit

/-- A role: its name, what it holds and may, and the two slices' values. -/
structure Rl where
  name : ByteArray
  ha : Option Addr
  hc : Nat
  ma : Option Addr
  mc : Nat
  holds : List ByteArray
  may : List ByteArray
abbrev Rl.hv (r : Rl) : Value := .slice r.ha r.holds.length r.hc
abbrev Rl.mv (r : Rl) : Value := .slice r.ma r.may.length r.mc

/-- a string is of a size that a reading gives -/
abbrev Ok (s : ByteArray) : Prop := s.size ≤ maxLen
structure Rl.Ok (r : Rl) : Prop where
  name : r.name.size ≤ maxLen
  holds : ∀ s ∈ r.holds, s.size ≤ maxLen
  may : ∀ s ∈ r.may, s.size ≤ maxLen
  hl : r.holds.length ≤ maxLen
  ml : r.may.length ≤ maxLen

def RlR (B : Nat) (w : World) (cs : Nat → Value) (r : Rl) : Prop := cs 0 = .string r.name ∧ cs 1 = r.hv ∧ cs 2 = r.mv ∧ Strs B w r.hv r.holds ∧ Strs B w r.mv r.may ∧ r.Ok
abbrev Rls (B : Nat) (w : World) (v : Value) (l : List Rl) : Prop := Row 3 (RlR B) B w v l

theorem RlR.below {B : Nat} {w w' : World} {cs : Nat → Value} {r : Rl} (h : RlR B w cs r) (hb : Below B w w') : RlR B w' cs r :=
  ⟨h.1, h.2.1, h.2.2.1, h.2.2.2.1.below hb, h.2.2.2.2.1.below hb, h.2.2.2.2.2⟩
theorem Rls.below {B : Nat} {w w' : World} {v : Value} {l : List Rl} (h : Rls B w v l) (hb : Below B w w') : Rls B w' v l := Row.below h hb fun _ _ _ h => h.below hb

theorem Rls.mono {B B' : Nat} {w : World} {v : Value} {l : List Rl} (h : Rls B w v l) (hB : B ≤ B') : Rls B' w v l := by
  obtain ⟨a, c, b, off, hv, hle, ha, hc⟩ := h.ex
  refine ⟨a, c, b, off, hv, hle, fun h => ⟨(ha h).1, Nat.lt_of_lt_of_le (ha h).2 hB⟩, fun j x hj => ?_⟩
  obtain ⟨cs, h1, h2, h3, h4, h5, h6, h7⟩ := hc j x hj
  exact ⟨cs, h1, h2, h3, h4, h5.mono hB, h6.mono hB, h7⟩

structure RlsC (B : Nat) (w : World) (a : Option Addr) (b off : Nat) (l : List Rl) : Prop where
  at0 : 0 < l.length → a = some ⟨b, off, none⟩ ∧ b < B
  c0 : ∀ j (hj : j < l.length), w.cell? ⟨b, off + j * 3, none⟩ = some (.string l[j].name)
  c1 : ∀ j (hj : j < l.length), w.cell? ⟨b, off + j * 3 + 1, none⟩ = some l[j].hv
  c2 : ∀ j (hj : j < l.length), w.cell? ⟨b, off + j * 3 + 2, none⟩ = some l[j].mv
  hs : ∀ j (hj : j < l.length), Strs B w l[j].hv l[j].holds
  ms : ∀ j (hj : j < l.length), Strs B w l[j].mv l[j].may
  ok : ∀ j (hj : j < l.length), l[j].Ok

theorem Rls.cells {B : Nat} {w : World} {v : Value} {l : List Rl} (h : Rls B w v l) : ∃ (a : Option Addr) (c b off : Nat), v = .slice a l.length c ∧ l.length ≤ c ∧ RlsC B w a b off l := by
  obtain ⟨a, c, b, off, hv, hle, ha, hc⟩ := h.ex
  have key : ∀ j (hj : j < l.length), w.cell? ⟨b, off + j * 3, none⟩ = some (.string l[j].name) ∧ w.cell? ⟨b, off + j * 3 + 1, none⟩ = some l[j].hv ∧ w.cell? ⟨b, off + j * 3 + 2, none⟩ = some l[j].mv ∧ Strs B w l[j].hv l[j].holds ∧ Strs B w l[j].mv l[j].may ∧ l[j].Ok := by
    intro j hj
    obtain ⟨cs, h1, h2, h3, h4, h5, h6, h7⟩ := hc j _ (List.getElem?_eq_getElem hj)
    exact ⟨by rw [← h2]; exact h1 0 (by omega), by rw [← h3]; exact h1 1 (by omega), by rw [← h4]; exact h1 2 (by omega), h5, h6, h7⟩
  exact ⟨a, c, b, off, hv, hle, ⟨ha, fun j hj => (key j hj).1, fun j hj => (key j hj).2.1, fun j hj => (key j hj).2.2.1, fun j hj => (key j hj).2.2.2.1, fun j hj => (key j hj).2.2.2.2.1, fun j hj => (key j hj).2.2.2.2.2⟩⟩

/-- a role as one value -/
def Rl.val (r : Rl) : Value := .agg #[.string r.name, r.hv, r.mv]
/-- a map of roles by their names -/
def entsR (l : List Rl) : Ents := l.map fun r => (r.name, r.val)
def findR : List Rl → ByteArray → Option Rl
  | [], _ => none
  | x :: r, k => if x.name = k then some x else findR r k
def putR : List Rl → Rl → List Rl
  | [], r => [r]
  | x :: l, r => if x.name = r.name then r :: l else x :: putR l r
/-- the map that byName makes, as the list of what it holds -/
def byNameL (l : List Rl) : List Rl := l.foldl putR []

theorem putM_entsR (l : List Rl) (r : Rl) : putM (entsR l) r.name r.val = entsR (putR l r) := by
  induction l with
  | nil => rfl
  | cons x l ih =>
    simp only [entsR, List.map_cons, putM, putR]
    split
    · simp
    · simp only [List.map_cons]; rw [← entsR, ih]; rfl
theorem getM_entsR (l : List Rl) (k : ByteArray) : getM (entsR l) k = (findR l k).map Rl.val := by
  induction l with
  | nil => rfl
  | cons x l ih =>
    simp only [entsR, List.map_cons, getM, findR]
    split
    · simp
    · rw [← entsR, ih]
theorem byNameL_snoc (l : List Rl) (k : Nat) (h : k < l.length) : byNameL (l.take (k + 1)) = putR (byNameL (l.take k)) l[k] := by
  rw [byNameL, List.take_succ_eq_append_getElem h, List.foldl_append]; rfl
theorem byNameL_all (l : List Rl) (k : Nat) (h : l.length ≤ k) : byNameL (l.take k) = byNameL l := by rw [List.take_of_length_le h]
theorem mem_putR {l : List Rl} {r x : Rl} (h : x ∈ putR l r) : x ∈ l ∨ x = r := by
  induction l with
  | nil => simpa [putR] using h
  | cons y l ih =>
    simp only [putR] at h
    split at h
    · rcases List.mem_cons.1 h with h | h
      · exact .inr h
      · exact .inl (by simp [h])
    · rcases List.mem_cons.1 h with h | h
      · exact .inl (by simp [h])
      · rcases ih h with h | h
        · exact .inl (by simp [h])
        · exact .inr h
theorem mem_byNameL {l : List Rl} {x : Rl} (h : x ∈ byNameL l) : x ∈ l := by
  have : ∀ (l acc : List Rl), x ∈ l.foldl putR acc → x ∈ l ∨ x ∈ acc := by
    intro l
    induction l with
    | nil => intro acc h; exact .inr h
    | cons y l ih =>
      intro acc h
      rcases ih _ h with h | h
      · exact .inl (by simp [h])
      · rcases mem_putR h with h | h
        · exact .inr h
        · exact .inl (by simp [h])
  rcases this l [] h with h | h
  · exact h
  · cases h
theorem putR_length (l : List Rl) (r : Rl) : (putR l r).length ≤ l.length + 1 := by
  induction l with
  | nil => simp [putR]
  | cons x l ih => simp only [putR]; split <;> simp; omega
end Go.Proofs.YtinijohmdljieaaGreatDoor
