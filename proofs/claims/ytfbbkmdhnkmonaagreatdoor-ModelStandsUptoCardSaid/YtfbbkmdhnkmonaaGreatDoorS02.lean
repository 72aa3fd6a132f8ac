/- Data of any shape, and how it lies in memory. slices.Clone of strings. Lists whose elements hold no place. A state's data. What a name is; plain facts on texts as runes. -/
import Derived.Test.YtfbbkmdhnkmonaaGreatDoorS01
import Derived.Test.YtfbbkmdhnkmonaaGreatDoorShelf
import Derived.Shelf.GgClosure.StringsIndexFunc
import Derived.Lib.SlTrimSet
namespace Go.Proofs.YtfbbkmdhnkmonaaGreatDoor
open Go.RowKit

/-- a cell's datum: a value without places, or a list whose elements have k cells each -/
inductive D where
  | atom (v : Value)
  | list (k : Nat) (es : List (List D))
/-- the blocks from a number on; those between two numbers -/
abbrev From (lo : Nat) : Nat → Prop := fun b => lo ≤ b
abbrev In (lo hi : Nat) : Nat → Prop := fun b => lo ≤ b ∧ b < hi
/-- how a datum lies in a world, in blocks that meet P; o: its places can be written -/
inductive Mem (o : Bool) (P : Nat → Prop) (w : World) : D → Value → Prop where
  | atom (v : Value) : Mem o P w (.atom v) v
  | list (k : Nat) (es : List (List D)) (vs : List (List Value)) (a : Option Addr) (c b off : Nat) (hl : vs.length = es.length) (hle : vs.length ≤ c)
      (ha : 0 < vs.length → a = some ⟨b, off, none⟩ ∧ P b ∧ b < w.heap.size) (hk : ∀ (j : Nat) (v : List Value), vs[j]? = some v → v.length = k) (hke : ∀ (j : Nat) (e : List D), es[j]? = some e → e.length = k)
      (hc : ∀ (j : Nat) (v : List Value) (i : Nat) (u : Value), vs[j]? = some v → v[i]? = some u → w.cell? ⟨b, off + j * k + i, none⟩ = some u ∧ (o = true → w.frozen? ⟨b, off + j * k + i, none⟩ = false))
      (hm : ∀ (j : Nat) (v : List Value) (e : List D) (i : Nat) (u : Value) (d : D), vs[j]? = some v → es[j]? = some e → v[i]? = some u → e[i]? = some d → Mem o P w d u) : Mem o P w (.list k es) (.slice a vs.length c)
/-- cells that hold data -/
def MemL (o : Bool) (P : Nat → Prop) (w : World) (ds : List D) (us : List Value) : Prop := us.length = ds.length ∧ ∀ (i : Nat) d u, ds[i]? = some d → us[i]? = some u → Mem o P w d u
theorem lt_of_some {α : Type} {l : List α} {j : Nat} {x : α} (h : l[j]? = some x) : j < l.length := by
  rcases Nat.lt_or_ge j l.length with h1 | h1
  · exact h1
  · rw [List.getElem?_eq_none h1] at h; cases h
theorem Mem.kept {o : Bool} {P : Nat → Prop} {w w' : World} {d : D} {v : Value} (h : Mem o P w d v) (hk : ∀ k, P k → k < w.heap.size → w'.heap[k]? = w.heap[k]?) (hs : w.heap.size ≤ w'.heap.size) : Mem o P w' d v := by
  induction h with
  | atom v => exact .atom v
  | list k es vs a c b off hl hle ha hk1 hk2 hc hm ih =>
    refine .list k es vs a c b off hl hle (fun h0 => ⟨(ha h0).1, (ha h0).2.1, Nat.lt_of_lt_of_le (ha h0).2.2 hs⟩) hk1 hk2 (fun j v i u hj hi => ?_) ih
    have h0 : 0 < vs.length := by have := lt_of_some hj; omega
    have hb := hk b (ha h0).2.1 (ha h0).2.2
    obtain ⟨h1, h2⟩ := hc j v i u hj hi
    exact ⟨by rw [World.cell?_of_block hb]; exact h1, fun ho => by rw [World.frozen?_of_block hb]; exact h2 ho⟩
theorem Mem.grow {o : Bool} {P : Nat → Prop} {w w' : World} {d : D} {v : Value} (h : Mem o P w d v) (hb : Below w.heap.size w w') : Mem o P w' d v := h.kept (fun k _ hk => hb.block k hk) hb.size
theorem Mem.weak {o : Bool} {P P' : Nat → Prop} {w : World} {d : D} {v : Value} (h : Mem o P w d v) (hp : ∀ b, P b → b < w.heap.size → P' b) : Mem o P' w d v := by
  induction h with
  | atom v => exact .atom v
  | list k es vs a c b off hl hle ha hk1 hk2 hc hm ih =>
    exact .list k es vs a c b off hl hle (fun h0 => ⟨(ha h0).1, hp b (ha h0).2.1 (ha h0).2.2, (ha h0).2.2⟩) hk1 hk2 hc ih
theorem Mem.read {o : Bool} {P : Nat → Prop} {w : World} {d : D} {v : Value} (h : Mem o P w d v) : Mem false (From 0) w d v := by
  induction h with
  | atom v => exact .atom v
  | list k es vs a c b off hl hle ha hk1 hk2 hc hm ih =>
    exact .list k es vs a c b off hl hle (fun h0 => ⟨(ha h0).1, Nat.zero_le _, (ha h0).2.2⟩) hk1 hk2 (fun j v i u hj hi => ⟨(hc j v i u hj hi).1, fun h => by cases h⟩) ih
theorem MemL.kept {o : Bool} {P : Nat → Prop} {w w' : World} {ds : List D} {us : List Value} (h : MemL o P w ds us) (hk : ∀ k, P k → k < w.heap.size → w'.heap[k]? = w.heap[k]?) (hs : w.heap.size ≤ w'.heap.size) : MemL o P w' ds us :=
  ⟨h.1, fun i d u h1 h2 => (h.2 i d u h1 h2).kept hk hs⟩
theorem MemL.grow {o : Bool} {P : Nat → Prop} {w w' : World} {ds : List D} {us : List Value} (h : MemL o P w ds us) (hb : Below w.heap.size w w') : MemL o P w' ds us := h.kept (fun k _ hk => hb.block k hk) hb.size
theorem MemL.weak {o : Bool} {P P' : Nat → Prop} {w : World} {ds : List D} {us : List Value} (h : MemL o P w ds us) (hp : ∀ b, P b → b < w.heap.size → P' b) : MemL o P' w ds us := ⟨h.1, fun i d u h1 h2 => (h.2 i d u h1 h2).weak hp⟩
theorem MemL.read {o : Bool} {P : Nat → Prop} {w : World} {ds : List D} {us : List Value} (h : MemL o P w ds us) : MemL false (From 0) w ds us := ⟨h.1, fun i d u h1 h2 => (h.2 i d u h1 h2).read⟩
theorem MemL.nil (o : Bool) (P : Nat → Prop) (w : World) : MemL o P w [] [] := ⟨rfl, fun i d u h => absurd h (by simp)⟩
theorem MemL.cons {o : Bool} {P : Nat → Prop} {w : World} {d : D} {u : Value} {ds : List D} {us : List Value} (h : Mem o P w d u) (hs : MemL o P w ds us) : MemL o P w (d :: ds) (u :: us) := by
  refine ⟨by simp [hs.1], fun i d' u' h1 h2 => ?_⟩
  cases i with
  | zero => simp at h1 h2; subst h1 h2; exact h
  | succ i => simp at h1 h2; exact hs.2 i d' u' h1 h2
theorem MemL.inv {o : Bool} {P : Nat → Prop} {w : World} {d : D} {ds : List D} {us : List Value} (h : MemL o P w (d :: ds) us) : ∃ u us', us = u :: us' ∧ Mem o P w d u ∧ MemL o P w ds us' := by
  cases us with
  | nil => have := h.1; simp at this
  | cons u us => exact ⟨u, us, rfl, h.2 0 d u rfl rfl, by have := h.1; simp at this; exact this, fun i d' u' h1 h2 => h.2 (i + 1) d' u' (by simpa using h1) (by simpa using h2)⟩
theorem MemL.inv0 {o : Bool} {P : Nat → Prop} {w : World} {us : List Value} (h : MemL o P w [] us) : us = [] := List.eq_nil_of_length_eq_zero (by simpa using h.1)
theorem Mem.atomInv {o : Bool} {P : Nat → Prop} {w : World} {v u : Value} (h : Mem o P w (.atom v) u) : u = v := match h with | .atom _ => rfl
/-- a list opened -/
structure ListC (o : Bool) (P : Nat → Prop) (w : World) (k : Nat) (es : List (List D)) (a : Option Addr) (b off : Nat) (vs : List (List Value)) : Prop where
  len : vs.length = es.length
  at0 : 0 < es.length → a = some ⟨b, off, none⟩ ∧ P b ∧ b < w.heap.size
  wid : ∀ e ∈ es, e.length = k
  row : ∀ j (h : j < es.length) (h' : j < vs.length), MemL o P w es[j] vs[j]
  cell : ∀ j (h : j < vs.length) i u, vs[j][i]? = some u → w.cell? ⟨b, off + j * k + i, none⟩ = some u
  frz : o = true → ∀ j, j < vs.length → ∀ i, i < k → w.frozen? ⟨b, off + j * k + i, none⟩ = false
theorem Mem.listInv {o : Bool} {P : Nat → Prop} {w : World} {k : Nat} {es : List (List D)} {u : Value} (h : Mem o P w (.list k es) u) : ∃ a c b off vs, u = .slice a es.length c ∧ es.length ≤ c ∧ ListC o P w k es a b off vs := by
  cases h with
  | list _ _ vs a c b off hl hle ha hk1 hk2 hc hm =>
    refine ⟨a, c, b, off, vs, by rw [hl], by omega, hl, fun h0 => ha (by omega), fun e he => ?_, fun j h h' => ⟨?_, fun i d u h1 h2 => hm j vs[j] es[j] i u d (List.getElem?_eq_getElem h') (List.getElem?_eq_getElem h) h2 h1⟩, fun j h i u hi => (hc j vs[j] i u (List.getElem?_eq_getElem h) hi).1, fun hlo j h i hi => ?_⟩
    · obtain ⟨j, hj, rfl⟩ := List.mem_iff_getElem.1 he
      exact hk2 j _ (List.getElem?_eq_getElem hj)
    · rw [hk1 j _ (List.getElem?_eq_getElem h'), hk2 j _ (List.getElem?_eq_getElem h)]
    · have hw := hk1 j _ (List.getElem?_eq_getElem h)
      exact (hc j vs[j] i (vs[j]'h)[i] (List.getElem?_eq_getElem h) (List.getElem?_eq_getElem (by omega))).2 hlo
theorem ListC.below {o : Bool} {P : Nat → Prop} {w w' : World} {k : Nat} {es : List (List D)} {a : Option Addr} {b off : Nat} {vs : List (List Value)} (h : ListC o P w k es a b off vs) (hb : Below w.heap.size w w') : ListC o P w' k es a b off vs := by
  have hbl : ∀ j, j < vs.length → w'.heap[b]? = w.heap[b]? := fun j hj => hb.block b (h.at0 (by have := h.len; omega)).2.2
  exact ⟨h.len, fun h0 => ⟨(h.at0 h0).1, (h.at0 h0).2.1, Nat.lt_of_lt_of_le (h.at0 h0).2.2 hb.size⟩, h.wid, fun j h1 h2 => (h.row j h1 h2).grow hb, fun j hj i u hi => by rw [World.cell?_of_block (hbl j hj)]; exact h.cell j hj i u hi, fun hlo j hj i hi => by rw [World.frozen?_of_block (hbl j hj)]; exact h.frz hlo j hj i hi⟩
theorem flat_at {α : Type} {k : Nat} : ∀ (vs : List (List α)) (_ : ∀ v ∈ vs, v.length = k) (j i : Nat) (h : j < vs.length) (_ : i < k), vs.flatten[j * k + i]? = vs[j][i]?
  | v :: vs, hw, 0, i, _, hi => by
    have := hw v (List.mem_cons_self ..)
    rw [List.flatten_cons, Nat.zero_mul, Nat.zero_add, List.getElem?_append_left (by omega)]; rfl
  | v :: vs, hw, j + 1, i, h, hi => by
    have h1 := hw v (List.mem_cons_self ..)
    rw [List.flatten_cons, List.getElem?_append_right (by rw [h1, Nat.add_mul]; omega), h1, show (j + 1) * k + i - k = j * k + i by rw [Nat.add_mul]; omega]
    exact flat_at vs (fun x hx => hw x (List.mem_cons_of_mem _ hx)) j i (by simpa using h) hi
theorem flat_len {α : Type} {k : Nat} : ∀ (vs : List (List α)) (_ : ∀ v ∈ vs, v.length = k), vs.flatten.length = vs.length * k
  | [], _ => by simp
  | v :: vs, hw => by
    rw [List.flatten_cons, List.length_append, flat_len vs fun x hx => hw x (List.mem_cons_of_mem _ hx), hw v (List.mem_cons_self ..), List.length_cons, Nat.add_mul]
    omega
/-- a list that the call has built -/
theorem memOwn {w : World} {base : Nat} {E : TypeId} {k vc : Nat} {va : Option Addr} {es : List (List D)} {vs : List (List Value)} (h : Own w base E k va vc es.length vs.flatten) (hk0 : 0 < k) (hl : vs.length = es.length) (hw : ∀ v ∈ vs, v.length = k) (hwe : ∀ e ∈ es, e.length = k)
    (hm : ∀ j (h1 : j < es.length) (h2 : j < vs.length), MemL true (From base) w es[j] vs[j]) : Mem true (From base) w (.list k es) (.slice va es.length vc) := by
  rw [← hl]
  have hx : ∀ (j : Nat) v (i : Nat) u, vs[j]? = some v → v[i]? = some u → vs.flatten[j * k + i]? = some u ∧ j < vs.length := by
    intro j v i u hj hi
    have hj' := lt_of_some hj
    rw [List.getElem?_eq_getElem hj'] at hj
    injection hj with hj
    have hi' := lt_of_some hi
    have := hw v (hj ▸ List.getElem_mem hj')
    exact ⟨by rw [flat_at vs hw j i hj' (by omega), hj]; exact hi, hj'⟩
  rcases h.block with ⟨rfl, h0, rfl⟩ | ⟨g, rfl, hb, hlt, -⟩
  · exact .list k es vs none 0 0 0 hl (by omega) (fun h => by omega) (fun j v hj => hw v (List.mem_of_getElem? hj)) (fun j e hj => hwe e (List.mem_of_getElem? hj)) (fun j v i u hj _ => by have := lt_of_some hj; omega) (fun j v e i u d hj _ _ _ => by have := lt_of_some hj; omega)
  · refine .list k es vs (some ⟨g, 0, none⟩) vc g 0 hl (by have := h.cap.1; omega) (fun _ => ⟨rfl, hb, hlt⟩) (fun j v hj => hw v (List.mem_of_getElem? hj)) (fun j e hj => hwe e (List.mem_of_getElem? hj)) (fun j v i u hj hi => ?_) (fun j v e i u d hj he hi hd => ?_)
    · obtain ⟨h1, h2⟩ := hx j v i u hj hi
      have hpos : 0 < es.length * k := Nat.mul_pos (by omega) hk0
      obtain ⟨g', he, -, -, hcell, hfz⟩ := h.cell hpos
      cases he
      rw [Nat.zero_add]
      exact ⟨hcell _ _ h1, fun _ => hfz _⟩
    · have hj1 := lt_of_some hj
      have hj2 := lt_of_some he
      have hm' := hm j hj2 hj1
      rw [List.getElem?_eq_getElem hj1] at hj
      rw [List.getElem?_eq_getElem hj2] at he
      injection hj with hj; injection he with he
      subst hj he
      exact hm'.2 i d u hd hi
end Go.Proofs.YtfbbkmdhnkmonaaGreatDoor

namespace Go.Proofs.YtfbbkmdhnkmonaaGreatDoor
open Go.RowKit

theorem elemStr : Elem Tryz.prog 26 9 1 16 := ⟨Tryz.underlying26, ⟨.string ⟨#[]⟩, by kernel_rfl, rfl⟩, by omega, Tryz.sizeOf9⟩

theorem getD_strs {xs : List ByteArray} {w : World} {b off : Nat} (h : ∀ j (hj : j < xs.length), w.cell? ⟨b, off + j, none⟩ = some (.string xs[j])) :
    ∀ j, j < xs.length → w.cell? ⟨b, off + j, none⟩ = some (.string (xs.getD j ByteArray.empty)) := by
  intro j hj
  rw [h j hj, List.getD_eq_getElem?_getD, List.getElem?_eq_getElem hj]; rfl

/-- slices.Clone of texts -/
theorem cloneStrs (v : Value) (xs : List ByteArray) (w : World) (hl : xs.length ≤ 1048576) (h : Strs w.heap.size w v xs) :
    Calls Tryz.prog 44 #[v] w fun e w' => ∃ va vc, e = .returned (.slice va xs.length vc) ∧ Own w' w.heap.size 9 1 va vc xs.length (xs.map Value.string) ∧ Below w.heap.size w w' := by
  obtain ⟨a, c, b, o, rfl, hle, ha, hc⟩ := h.cells
  have fin : ∀ (v' : Value) (w' : World), w'.ownsRow w.heap.size 9 1 v' xs.length (xs.map Value.string) → ∃ va vc, v' = .slice va xs.length vc ∧ Own w' w.heap.size 9 1 va vc xs.length (xs.map Value.string) := by
    intro v' w' hr
    rcases hr.2 with ⟨hv, h0⟩ | ⟨g, cap, _, hv, _⟩
    · exact ⟨none, 0, by rw [hv, h0], ⟨by rw [h0] at hr ⊢; rw [hv] at hr; exact hr⟩⟩
    · exact ⟨_, _, hv, ⟨by rw [hv] at hr; exact hr⟩⟩
  by_cases h0 : 0 < xs.length
  · obtain ⟨rfl, hb⟩ := ha h0
    refine (Tryz.slices_Clone_string b o xs.length c xs w (Nat.le_refl _) (by omega) (getD_strs hc)).mono ?_
    rintro e w' ⟨v', rfl, hr, -, hbw⟩
    rw [List.take_length] at hr
    obtain ⟨va, vc, rfl, hO⟩ := fin v' w' hr
    exact ⟨va, vc, rfl, hO, hbw⟩
  · have : xs = [] := List.eq_nil_of_length_eq_zero (by omega)
    subst this
    cases a with
    | none =>
      refine (Tryz.slices_Clone_string_nil 0 c w).mono ?_
      rintro e w' ⟨rfl, rfl⟩
      exact ⟨none, 0, rfl, Own.nil _ _ _ _, Below.refl _ _⟩
    | some a =>
      refine (Tryz.slices_Clone_string_zero a c w).mono ?_
      rintro e w' ⟨v', rfl, hr, -, hbw⟩
      obtain ⟨va, vc, rfl, hO⟩ := fin v' w' hr
      exact ⟨va, vc, rfl, hO, hbw⟩
/-- a slice of strings of one's own reads as it -/
theorem Own.strs {w : World} {base B vc : Nat} {va : Option Addr} {xs : List ByteArray} (h : Own w base 9 1 va vc xs.length (xs.map Value.string)) (hB : w.heap.size ≤ B) : Strs B w (.slice va xs.length vc) xs := by
  by_cases h0 : 0 < xs.length
  · obtain ⟨g, rfl, -, hlt, hc, -⟩ := h.cell (by omega)
    refine ⟨some ⟨g, 0, none⟩, vc, g, 0, rfl, h.cap.1, fun _ => ⟨rfl, by omega⟩, fun j x hj => ⟨fun _ => .string x, fun i hi => ?_, rfl⟩⟩
    obtain rfl : i = 0 := by omega
    rw [show 0 + j * 1 + 0 = j by omega]
    exact hc j _ (by rw [List.getElem?_map, hj]; rfl)
  · have : xs = [] := List.eq_nil_of_length_eq_zero (by omega)
    subst this
    exact ⟨va, vc, 0, 0, rfl, h.cap.1, by simp, by simp⟩
end Go.Proofs.YtfbbkmdhnkmonaaGreatDoor

namespace Go.Proofs.YtfbbkmdhnkmonaaGreatDoor
open Go.RowKit

/-- a list whose elements hold no place -/
def flatL {α : Type} (k : Nat) (f : α → List Value) (xs : List α) : D := .list k (xs.map fun x => (f x).map D.atom)
structure FlatC {α : Type} (o : Bool) (P : Nat → Prop) (w : World) (k : Nat) (f : α → List Value) (xs : List α) (a : Option Addr) (b off : Nat) : Prop where
  at0 : 0 < xs.length → a = some ⟨b, off, none⟩ ∧ P b ∧ b < w.heap.size
  cell : ∀ j (h : j < xs.length) i u, (f xs[j])[i]? = some u → w.cell? ⟨b, off + j * k + i, none⟩ = some u
  frz : o = true → ∀ j, j < xs.length → ∀ i, i < k → w.frozen? ⟨b, off + j * k + i, none⟩ = false
theorem memL_atoms {o : Bool} {P : Nat → Prop} {w : World} : ∀ {us vs : List Value}, MemL o P w (us.map D.atom) vs → vs = us
  | [], vs, h => h.inv0
  | u :: us, vs, h => by
    obtain ⟨x, xs, rfl, h1, h2⟩ := h.inv
    rw [h1.atomInv, memL_atoms h2]
theorem atoms_memL (o : Bool) (P : Nat → Prop) (w : World) : ∀ us : List Value, MemL o P w (us.map D.atom) us
  | [] => MemL.nil o P w
  | u :: us => MemL.cons (.atom u) (atoms_memL o P w us)
theorem flat_open {α : Type} {o : Bool} {P : Nat → Prop} {w : World} {k : Nat} {f : α → List Value} {xs : List α} {v : Value} (h : Mem o P w (flatL k f xs) v) : ∃ a c b off, v = .slice a xs.length c ∧ xs.length ≤ c ∧ FlatC o P w k f xs a b off := by
  obtain ⟨a, c, b, off, vs, rfl, hle, hC⟩ := h.listInv
  rw [List.length_map] at hle ⊢
  have hl : vs.length = xs.length := by rw [hC.len, List.length_map]
  refine ⟨a, c, b, off, rfl, hle, fun h0 => hC.at0 (by simpa using h0), fun j hj i u hi => ?_, fun hlo j hj i hi => hC.frz hlo j (by omega) i hi⟩
  have hr := hC.row j (by simpa using hj) (by omega)
  rw [List.getElem_map] at hr
  have he := memL_atoms hr
  exact hC.cell j (by omega) i u (by rw [he]; exact hi)
theorem FlatC.grow {α : Type} {o : Bool} {P : Nat → Prop} {w w' : World} {k : Nat} {f : α → List Value} {xs : List α} {a : Option Addr} {b off : Nat} (h : FlatC o P w k f xs a b off) (hb : Below w.heap.size w w') : FlatC o P w' k f xs a b off := by
  have hbl : ∀ j, j < xs.length → w'.heap[b]? = w.heap[b]? := fun j hj => hb.block b (h.at0 (by omega)).2.2
  exact ⟨fun h0 => ⟨(h.at0 h0).1, (h.at0 h0).2.1, Nat.lt_of_lt_of_le (h.at0 h0).2.2 hb.size⟩, fun j hj i u hi => by rw [World.cell?_of_block (hbl j hj)]; exact h.cell j hj i u hi, fun hlo j hj i hi => by rw [World.frozen?_of_block (hbl j hj)]; exact h.frz hlo j hj i hi⟩
theorem flat_own {α : Type} {w : World} {base : Nat} {E : TypeId} {k vc : Nat} {va : Option Addr} {f : α → List Value} {xs : List α} (h : Own w base E k va vc xs.length (xs.flatMap f)) (hk : 0 < k) (hf : ∀ x, (f x).length = k) : Mem true (From base) w (flatL k f xs) (.slice va xs.length vc) := by
  have hl : (xs.map fun x => (f x).map D.atom).length = xs.length := List.length_map ..
  have := memOwn (es := xs.map fun x => (f x).map D.atom) (vs := xs.map f) (by rw [hl]; exact h) hk (by simp) (by
    intro v hv
    obtain ⟨x, -, rfl⟩ := List.mem_map.1 hv
    exact hf x) (by
    intro e he
    obtain ⟨x, -, rfl⟩ := List.mem_map.1 he
    rw [List.length_map]; exact hf x) (fun j h1 h2 => by
    rw [List.getElem_map, List.getElem_map]
    exact atoms_memL true (From base) w _)
  rw [hl] at this
  exact this
/-- append(nil, l...) -/
theorem flat_app {Pr : Program} {T E : TypeId} {k bytes : Nat} (hE : Elem Pr T E k bytes) (ty : TypeId) {α : Type} {o : Bool} {P : Nat → Prop} {w : World} {f : α → List Value} {xs : List α} {a : Option Addr} {c : Nat} (h : Mem o P w (flatL k f xs) (.slice a xs.length c)) (hf : ∀ x, (f x).length = k) (h1 : ∀ x, ∀ u ∈ f x, u.oneCell' = true)
    (hl : xs.length ≤ maxLen) (hbytes : xs.length * bytes ≤ 140737488355328) :
    ∃ va vc w', (Builtin.append_ #[T, T] ty #[.slice none 0 0, .slice a xs.length c]).run Pr w = .ok (.slice va xs.length vc) w' ∧ Mem true (From w.heap.size) w' (flatL k f xs) (.slice va xs.length vc) ∧ Below w.heap.size w w' ∧ (∀ b o, va = some ⟨b, o, none⟩ → w.heap.size ≤ b ∧ b < w'.heap.size) := by
  obtain ⟨a', c', b, off, he, -, hC⟩ := flat_open h
  injection he with e1 e2 e3
  subst e1 e3
  have hfl : (xs.flatMap f).length = xs.length * k := by
    rw [List.flatMap_def]
    rw [flat_len (k := k) (xs.map f) (by intro v hv; obtain ⟨x, -, rfl⟩ := List.mem_map.1 hv; exact hf x), List.length_map]
  obtain ⟨va, vc, w', hrun, hO, hg⟩ := Own.app (cells := []) hE ty (Own.nil w w.heap.size E k) (Nat.le_refl _) a xs.length c b off (xs.flatMap f) hfl (fun h0 => (hC.at0 h0).1) (fun j u hj => by
    have hjl := lt_of_some hj
    rw [hfl] at hjl
    have hk0 : 0 < k := hE.pos
    have hq : j / k < xs.length := Nat.div_lt_of_lt_mul (by rw [Nat.mul_comm]; exact hjl)
    have hr : j % k < k := Nat.mod_lt _ hk0
    have hjk : j / k * k + j % k = j := by rw [Nat.mul_comm]; exact Nat.div_add_mod j k
    have := flat_at (k := k) (xs.map f) (by intro v hv; obtain ⟨x, -, rfl⟩ := List.mem_map.1 hv; exact hf x) (j / k) (j % k) (by simpa using hq) hr
    rw [hjk, ← List.flatMap_def, hj, List.getElem_map] at this
    have hc := hC.cell (j / k) hq (j % k) u this.symm
    rw [Nat.add_assoc, hjk] at hc
    exact hc) (fun u hu => by
    obtain ⟨x, -, hx⟩ := List.mem_flatMap.1 hu
    exact h1 x u hx) (by omega) (by rw [Nat.zero_add]; exact hbytes)
  rw [Nat.zero_add] at hrun hO
  rw [List.nil_append] at hO
  exact ⟨va, vc, w', hrun, flat_own hO hE.pos hf, (Below.refl _ _).grown hg (Nat.le_refl _) (fun k hk => by cases hk), fun b o he => by
    rcases hO.block with ⟨h1, _⟩ | ⟨g, h1, h2, h3, _⟩
    · rw [h1] at he; cases he
    · rw [h1] at he; cases he; exact ⟨h2, h3⟩⟩
/-- texts -/
def strD (rs : List ByteArray) : D := flatL 1 (fun s => [Value.string s]) rs
theorem strD_strs {o : Bool} {P : Nat → Prop} {w : World} {v : Value} {rs : List ByteArray} (h : Mem o P w (strD rs) v) : Strs w.heap.size w v rs := by
  obtain ⟨a, c, b, off, rfl, hle, hC⟩ := flat_open h
  refine ⟨a, c, b, off, rfl, hle, fun h0 => ⟨(hC.at0 h0).1, (hC.at0 h0).2.2⟩, fun j x hj => ?_⟩
  have hjl := lt_of_some hj
  rw [List.getElem?_eq_getElem hjl] at hj
  injection hj with hj
  refine ⟨fun _ => .string x, fun i hi => ?_, rfl⟩
  obtain rfl : i = 0 := by omega
  exact hC.cell j hjl 0 _ (by rw [hj]; rfl)
theorem own_strD {w : World} {base : Nat} {va : Option Addr} {vc : Nat} {rs : List ByteArray} (h : Own w base 9 1 va vc rs.length (rs.map Value.string)) : Mem true (From base) w (strD rs) (.slice va rs.length vc) :=
  flat_own (f := fun s => [Value.string s]) (by rw [← List.map_eq_flatMap]; exact h) (by omega) (fun _ => rfl)
end Go.Proofs.YtfbbkmdhnkmonaaGreatDoor

namespace Go.Proofs.YtfbbkmdhnkmonaaGreatDoor
open Go.RowKit

structure UserD where
  n : ByteArray
  s : ByteArray
  p : ByteArray
  rs : List ByteArray
def UserD.ds (u : UserD) : List D := [.atom (.string u.n), .atom (.string u.s), .atom (.string u.p), strD u.rs]
structure RoleD where
  name : ByteArray
  holds : List ByteArray
  may : List ByteArray
def RoleD.ds (r : RoleD) : List D := [.atom (.string r.name), strD r.holds, strD r.may]
structure SentryD where
  on : Int
  name : ByteArray
  cond : ByteArray
def SentryD.cs (s : SentryD) : List Value := [.int .u8 s.on, .string s.name, .string s.cond]
def senD (l : List SentryD) : D := flatL 3 SentryD.cs l
structure StageD where
  name : ByteArray
  inn : Int
  opens : List SentryD
  closes : List SentryD
  role : ByteArray
  aft : Int
  event : ByteArray
def StageD.ds (s : StageD) : List D := [.atom (.string s.name), .atom (.int .i64 s.inn), senD s.opens, senD s.closes, .atom (.string s.role), .atom (.int .i64 s.aft), .atom (.string s.event)]
structure StoneD where
  name : ByteArray
  done : List SentryD
  undo : List SentryD
def StoneD.ds (s : StoneD) : List D := [.atom (.string s.name), senD s.done, senD s.undo]
structure AttrD where
  name : ByteArray
  kind : Int
def AttrD.cs (a : AttrD) : List Value := [.string a.name, .int .u8 a.kind]
def pairC (p : ByteArray × ByteArray) : List Value := [.string p.1, .string p.2]
structure ModelD where
  name : ByteArray
  attrs : List AttrD
  events : List ByteArray
  stages : List StageD
  stones : List StoneD
  apart : List (ByteArray × ByteArray)
def ModelD.ds (m : ModelD) : List D := [.atom (.string m.name), flatL 2 AttrD.cs m.attrs, strD m.events, .list 7 (m.stages.map StageD.ds), .list 3 (m.stones.map StoneD.ds), flatL 2 pairC m.apart]
structure VerD where
  m : ModelD
  v : Int
def VerD.ds (v : VerD) : List D := [.atom (.string v.m.name), flatL 2 AttrD.cs v.m.attrs, strD v.m.events, .list 7 (v.m.stages.map StageD.ds), .list 3 (v.m.stones.map StoneD.ds), flatL 2 pairC v.m.apart, .atom (.int .i64 v.v)]
/-- a value of package json: its cells -/
inductive IsJson : List D → Prop where
  | mk (k : Int) (b : Bool) (i : Int) (t : ByteArray) (names : List ByteArray) (es : List (List D)) (hn : names.length ≤ 1048576) (he : es.length ≤ 1048576) (h : ∀ e ∈ es, IsJson e) : IsJson [.atom (.int .u8 k), .atom (.bool b), .atom (.int .i64 i), .atom (.string t), strD names, .list 6 es]
def boolC (b : Bool) : List Value := [.bool b]
structure CaseD where
  id : Int
  model : ByteArray
  version : Int
  values : List (List D)
  opn : List Bool
  done : List Bool
  acted : List (ByteArray × ByteArray)
def CaseD.ds (c : CaseD) : List D := [.atom (.int .i64 c.id), .atom (.string c.model), .atom (.int .i64 c.version), .list 6 c.values, flatL 1 boolC c.opn, flatL 1 boolC c.done, flatL 2 pairC c.acted]
structure TimerD where
  at_ : Int
  seq : Int
  cas : Int
  stage : ByteArray
  event : ByteArray
def TimerD.cs (t : TimerD) : List Value := [.int .i64 t.at_, .int .i64 t.seq, .int .i64 t.cas, .string t.stage, .string t.event]
structure WorkD where
  id : Int
  cas : Int
  stage : ByteArray
  role : ByteArray
  state : Int
  owner : ByteArray
def WorkD.cs (t : WorkD) : List Value := [.int .i64 t.id, .int .i64 t.cas, .string t.stage, .string t.role, .int .u8 t.state, .string t.owner]
structure RecD where
  seq : Int
  at_ : Int
  user : ByteArray
  deed : ByteArray
  outcome : Int
  hash : ByteArray
def RecD.cs (t : RecD) : List Value := [.int .i64 t.seq, .int .i64 t.at_, .string t.user, .string t.deed, .int .i64 t.outcome, .string t.hash]
structure SessD where
  id : Int
  user : ByteArray
  till : Int
def SessD.cs (t : SessD) : List Value := [.int .i64 t.id, .string t.user, .int .i64 t.till]
structure StateD where
  clock : Int
  secret : ByteArray
  users : List UserD
  roles : List RoleD
  models : List VerD
  cases : List CaseD
  timers : List TimerD
  works : List WorkD
  audit : List RecD
  sess : List SessD
  nc : Int
  nw : Int
  np : Int
  nt : Int
def StateD.ds (s : StateD) : List D := [.atom (.int .i64 s.clock), .atom (.string s.secret), .list 4 (s.users.map UserD.ds), .list 3 (s.roles.map RoleD.ds), .list 7 (s.models.map VerD.ds), .list 7 (s.cases.map CaseD.ds),
  flatL 5 TimerD.cs s.timers, flatL 6 WorkD.cs s.works, flatL 6 RecD.cs s.audit, flatL 3 SessD.cs s.sess, .atom (.int .i64 s.nc), .atom (.int .i64 s.nw), .atom (.int .i64 s.np), .atom (.int .i64 s.nt)]
/-- a list of records: its places and cells -/
structure RecC {α : Type} (o : Bool) (P : Nat → Prop) (w : World) (k : Nat) (f : α → List D) (xs : List α) (a : Option Addr) (b off : Nat) : Prop where
  at0 : 0 < xs.length → a = some ⟨b, off, none⟩ ∧ P b ∧ b < w.heap.size
  row : ∀ j (h : j < xs.length), ∃ us, MemL o P w (f xs[j]) us ∧ ∀ i u, us[i]? = some u → w.cell? ⟨b, off + j * k + i, none⟩ = some u
  frz : o = true → ∀ j, j < xs.length → ∀ i, i < k → w.frozen? ⟨b, off + j * k + i, none⟩ = false
theorem rec_open {α : Type} {o : Bool} {P : Nat → Prop} {w : World} {k : Nat} {f : α → List D} {xs : List α} {v : Value} (h : Mem o P w (.list k (xs.map f)) v) : ∃ a c b off, v = .slice a xs.length c ∧ xs.length ≤ c ∧ RecC o P w k f xs a b off := by
  obtain ⟨a, c, b, off, vs, rfl, hle, hC⟩ := h.listInv
  rw [List.length_map] at hle ⊢
  have hl : vs.length = xs.length := by rw [hC.len, List.length_map]
  refine ⟨a, c, b, off, rfl, hle, fun h0 => hC.at0 (by simpa using h0), fun j hj => ⟨vs[j]'(by omega), ?_, fun i u hi => hC.cell j (by omega) i u hi⟩, fun hlo j hj i hi => hC.frz hlo j (by omega) i hi⟩
  have hr := hC.row j (by simpa using hj) (by omega)
  rw [List.getElem_map] at hr
  exact hr
theorem RecC.grow {α : Type} {o : Bool} {P : Nat → Prop} {w w' : World} {k : Nat} {f : α → List D} {xs : List α} {a : Option Addr} {b off : Nat} (h : RecC o P w k f xs a b off) (hb : Below w.heap.size w w') : RecC o P w' k f xs a b off := by
  have hbl : ∀ j, j < xs.length → w'.heap[b]? = w.heap[b]? := fun j hj => hb.block b (h.at0 (by omega)).2.2
  refine ⟨fun h0 => ⟨(h.at0 h0).1, (h.at0 h0).2.1, Nat.lt_of_lt_of_le (h.at0 h0).2.2 hb.size⟩, fun j hj => ?_, fun hlo j hj i hi => by rw [World.frozen?_of_block (hbl j hj)]; exact h.frz hlo j hj i hi⟩
  obtain ⟨us, h1, h2⟩ := h.row j hj
  exact ⟨us, h1.grow hb, fun i u hi => by rw [World.cell?_of_block (hbl j hj)]; exact h2 i u hi⟩
/-- the cells of a stage, a stone, a user, a role -/
theorem UserD.cells {o : Bool} {P : Nat → Prop} {w : World} {u : UserD} {us : List Value} (h : MemL o P w u.ds us) : ∃ a c, us = [.string u.n, .string u.s, .string u.p, .slice a u.rs.length c] ∧ Mem o P w (strD u.rs) (.slice a u.rs.length c) := by
  obtain ⟨x0, y0, rfl, h0, h⟩ := MemL.inv h
  obtain ⟨x1, y1, rfl, h1, h⟩ := h.inv
  obtain ⟨x2, y2, rfl, h2, h⟩ := h.inv
  obtain ⟨x3, y3, rfl, h3, h⟩ := h.inv
  obtain rfl := h.inv0
  obtain ⟨a, c, _, _, rfl, -, -⟩ := flat_open h3
  exact ⟨a, c, by rw [h0.atomInv, h1.atomInv, h2.atomInv], h3⟩
theorem RoleD.cells {o : Bool} {P : Nat → Prop} {w : World} {r : RoleD} {us : List Value} (h : MemL o P w r.ds us) : ∃ a c a2 c2, us = [.string r.name, .slice a r.holds.length c, .slice a2 r.may.length c2] ∧ Mem o P w (strD r.holds) (.slice a r.holds.length c) ∧ Mem o P w (strD r.may) (.slice a2 r.may.length c2) := by
  obtain ⟨x0, y0, rfl, h0, h⟩ := MemL.inv h
  obtain ⟨x1, y1, rfl, h1, h⟩ := h.inv
  obtain ⟨x2, y2, rfl, h2, h⟩ := h.inv
  obtain rfl := h.inv0
  obtain ⟨a, c, _, _, rfl, -, -⟩ := flat_open h1
  obtain ⟨a2, c2, _, _, rfl, -, -⟩ := flat_open h2
  exact ⟨a, c, a2, c2, by rw [h0.atomInv], h1, h2⟩
theorem StageD.cells {o : Bool} {P : Nat → Prop} {w : World} {s : StageD} {us : List Value} (h : MemL o P w s.ds us) : ∃ a c a2 c2, us = [.string s.name, .int .i64 s.inn, .slice a s.opens.length c, .slice a2 s.closes.length c2, .string s.role, .int .i64 s.aft, .string s.event] ∧ Mem o P w (senD s.opens) (.slice a s.opens.length c) ∧ Mem o P w (senD s.closes) (.slice a2 s.closes.length c2) := by
  obtain ⟨x0, y0, rfl, h0, h⟩ := MemL.inv h
  obtain ⟨x1, y1, rfl, h1, h⟩ := h.inv
  obtain ⟨x2, y2, rfl, h2, h⟩ := h.inv
  obtain ⟨x3, y3, rfl, h3, h⟩ := h.inv
  obtain ⟨x4, y4, rfl, h4, h⟩ := h.inv
  obtain ⟨x5, y5, rfl, h5, h⟩ := h.inv
  obtain ⟨x6, y6, rfl, h6, h⟩ := h.inv
  obtain rfl := h.inv0
  obtain ⟨a, c, _, _, rfl, -, -⟩ := flat_open h2
  obtain ⟨a2, c2, _, _, rfl, -, -⟩ := flat_open h3
  exact ⟨a, c, a2, c2, by rw [h0.atomInv, h1.atomInv, h4.atomInv, h5.atomInv, h6.atomInv], h2, h3⟩
theorem StoneD.cells {o : Bool} {P : Nat → Prop} {w : World} {s : StoneD} {us : List Value} (h : MemL o P w s.ds us) : ∃ a c a2 c2, us = [.string s.name, .slice a s.done.length c, .slice a2 s.undo.length c2] ∧ Mem o P w (senD s.done) (.slice a s.done.length c) ∧ Mem o P w (senD s.undo) (.slice a2 s.undo.length c2) := by
  obtain ⟨x0, y0, rfl, h0, h⟩ := MemL.inv h
  obtain ⟨x1, y1, rfl, h1, h⟩ := h.inv
  obtain ⟨x2, y2, rfl, h2, h⟩ := h.inv
  obtain rfl := h.inv0
  obtain ⟨a, c, _, _, rfl, -, -⟩ := flat_open h1
  obtain ⟨a2, c2, _, _, rfl, -, -⟩ := flat_open h2
  exact ⟨a, c, a2, c2, by rw [h0.atomInv], h1, h2⟩
/-- a model's six slices -/
structure ModelV where
  a1 : Option Addr
  c1 : Nat
  a2 : Option Addr
  c2 : Nat
  a3 : Option Addr
  c3 : Nat
  a4 : Option Addr
  c4 : Nat
  a5 : Option Addr
  c5 : Nat
abbrev ModelV.cs (v : ModelV) (m : ModelD) : List Value := [.string m.name, .slice v.a1 m.attrs.length v.c1, .slice v.a2 m.events.length v.c2, .slice v.a3 m.stages.length v.c3, .slice v.a4 m.stones.length v.c4, .slice v.a5 m.apart.length v.c5]
structure ModelM (o : Bool) (P : Nat → Prop) (w : World) (m : ModelD) (v : ModelV) : Prop where
  attrs : Mem o P w (flatL 2 AttrD.cs m.attrs) (.slice v.a1 m.attrs.length v.c1)
  events : Mem o P w (strD m.events) (.slice v.a2 m.events.length v.c2)
  stages : Mem o P w (.list 7 (m.stages.map StageD.ds)) (.slice v.a3 m.stages.length v.c3)
  stones : Mem o P w (.list 3 (m.stones.map StoneD.ds)) (.slice v.a4 m.stones.length v.c4)
  apart : Mem o P w (flatL 2 pairC m.apart) (.slice v.a5 m.apart.length v.c5)
theorem VerD.cells {o : Bool} {P : Nat → Prop} {w : World} {r : VerD} {us : List Value} (h : MemL o P w r.ds us) : ∃ v : ModelV, us = v.cs r.m ++ [.int .i64 r.v] ∧ ModelM o P w r.m v := by
  obtain ⟨x0, y0, rfl, h0, h⟩ := MemL.inv h
  obtain ⟨x1, y1, rfl, h1, h⟩ := h.inv
  obtain ⟨x2, y2, rfl, h2, h⟩ := h.inv
  obtain ⟨x3, y3, rfl, h3, h⟩ := h.inv
  obtain ⟨x4, y4, rfl, h4, h⟩ := h.inv
  obtain ⟨x5, y5, rfl, h5, h⟩ := h.inv
  obtain ⟨x6, y6, rfl, h6, h⟩ := h.inv
  obtain rfl := h.inv0
  obtain ⟨a1, c1, _, _, rfl, -, -⟩ := flat_open h1
  obtain ⟨a2, c2, _, _, rfl, -, -⟩ := flat_open h2
  obtain ⟨a3, c3, _, _, rfl, -, -⟩ := rec_open h3
  obtain ⟨a4, c4, _, _, rfl, -, -⟩ := rec_open h4
  obtain ⟨a5, c5, _, _, rfl, -, -⟩ := flat_open h5
  exact ⟨⟨a1, c1, a2, c2, a3, c3, a4, c4, a5, c5⟩, by rw [h0.atomInv, h6.atomInv]; rfl, h1, h2, h3, h4, h5⟩
end Go.Proofs.YtfbbkmdhnkmonaaGreatDoor

namespace Go.Proofs.YtfbbkmdhnkmonaaGreatDoor
open Go.RowKit

def nmB (c : UInt8) : Bool := (97 ≤ c.toNat && c.toNat ≤ 122) || (48 ≤ c.toNat && c.toNat ≤ 57) || c.toNat == 45 || c.toNat == 95 || c.toNat == 46
def nmR (r : Nat) : Bool := (97 ≤ r && r ≤ 122) || (48 ≤ r && r ≤ 57) || r == 45 || r == 95 || r == 46
def named (s : List UInt8) : Bool := !s.isEmpty && s.length ≤ 32 && s.all nmB

theorem nmB_yes {c : UInt8} (h : (97 ≤ (c.toNat : Int) ∧ (c.toNat : Int) ≤ 122) ∨ (48 ≤ (c.toNat : Int) ∧ (c.toNat : Int) ≤ 57) ∨ (c.toNat : Int) = 45 ∨ (c.toNat : Int) = 95 ∨ (c.toNat : Int) = 46) : nmB c = true := by
  simp [nmB]; omega
theorem nmB_no {c : UInt8} (h : ¬ ((97 ≤ (c.toNat : Int) ∧ (c.toNat : Int) ≤ 122) ∨ (48 ≤ (c.toNat : Int) ∧ (c.toNat : Int) ≤ 57) ∨ (c.toNat : Int) = 45 ∨ (c.toNat : Int) = 95 ∨ (c.toNat : Int) = 46)) : nmB c = false := by
  simp [nmB]; omega
theorem nmR_big {r : Nat} (h : 128 ≤ r) : nmR r = false := by simp [nmR]; omega

/-- a byte beyond ASCII opens a rune beyond ASCII -/
theorem decode_big (s : ByteArray) (i : Nat) (h : 128 ≤ (s.get! i).toNat) : 128 ≤ (Utf8.decode s i).1 := by
  have h0 : ¬ ((s.get! (i + 0)).toNat < 128) := by simpa using Nat.not_lt.2 h
  unfold Utf8.decode
  simp only [h0, if_false]
  repeat' split
  all_goals simp_all [Utf8.runeError]
  all_goals omega
theorem decode_small (s : ByteArray) (i : Nat) (h : (s.get! i).toNat < 128) : Utf8.decode s i = ((s.get! i).toNat, 1) := by
  have h0 : ((s.get! (i + 0)).toNat < 128) := by simpa using h
  unfold Utf8.decode
  simp only [h0, if_true]
  rfl
theorem get!_eq (s : ByteArray) (i : Nat) (h : i < s.size) : s.get! i = s[i] := by
  simp [ByteArray.get!, ByteArray.getElem_eq_getElem_data, getElem!_pos, h]

/-- no rune is found that is not of a name's: just where each byte is a name's -/
theorem idx_named (s : ByteArray) : ∀ (f pos : Nat), s.size ≤ pos + f → decide (0 ≤ Lib.idxFuncFrom (fun r => !nmR r) true s f pos) = !((s.data.toList.drop pos).all nmB)
  | 0, pos, h => by
    rw [List.drop_of_length_le (by rw [ba_len]; omega)]
    rfl
  | f + 1, pos, h => by
    unfold Lib.idxFuncFrom
    by_cases hp : pos < s.size
    · have hd : s.data.toList.drop pos = s[pos] :: s.data.toList.drop (pos + 1) := by
        rw [List.drop_eq_getElem_cons (by rw [ba_len]; exact hp)]; rfl
      rw [if_pos hp, hd, List.all_cons]
      by_cases hb : (s.get! pos).toNat < 128
      · rw [decode_small s pos hb]
        have hn : nmR (s.get! pos).toNat = nmB s[pos] := by rw [get!_eq s pos hp]; rfl
        dsimp only
        rw [hn]
        cases hc : nmB s[pos]
        · simp
        · simp only [Bool.not_true, Bool.false_eq_true, if_false, Bool.true_and]
          exact idx_named s f (pos + 1) (by omega)
      · have h1 := nmR_big (decode_big s pos (by omega))
        have h2 : nmB s[pos] = false := by
          rw [← get!_eq s pos hp]
          exact nmR_big (by omega)
        rw [h1, h2]; simp
    · rw [if_neg hp, List.drop_of_length_le (by rw [ba_len]; omega)]
      rfl

theorem idx_named_all (s : ByteArray) : decide (0 ≤ Lib.idxFunc (fun r => !nmR r) true s) = !(s.data.toList.all nmB) :=
  idx_named s s.size 0 (by omega)

def nameSigns : List UInt8 := [97, 98, 99, 100, 101, 102, 103, 104, 105, 106, 107, 108, 109, 110, 111, 112, 113, 114, 115, 116, 117, 118, 119, 120, 121, 122, 48, 49, 50, 51, 52, 53, 54, 55, 56, 57, 45, 95, 46]
theorem nameSigns_iff (c : UInt8) : nameSigns.contains c = nmB c := by
  have : ∀ n, n < 256 → nameSigns.contains (UInt8.ofNat n) = nmB (UInt8.ofNat n) := by decide +kernel
  have h := this c.toNat c.toNat_lt
  simpa using h
theorem dropWhile_all {p : UInt8 → Bool} : ∀ l : List UInt8, (l.dropWhile p).all p = l.all p
  | [] => rfl
  | b :: l => by
    cases h : p b
    · simp [List.dropWhile, h]
    · simp [List.dropWhile, h, dropWhile_all l]
theorem dropWhile_nil {p : UInt8 → Bool} : ∀ l : List UInt8, (l.dropWhile p).isEmpty = l.all p
  | [] => rfl
  | b :: l => by
    cases h : p b
    · simp [List.dropWhile, h]
    · simp [List.dropWhile, h, dropWhile_nil l]
theorem trim_named (l : List UInt8) : (Lib.trimS l nameSigns).isEmpty = l.all nmB := by
  have hp : (fun c => nameSigns.contains c) = nmB := funext nameSigns_iff
  unfold Lib.trimS Lib.trimLeftS Lib.trimRightS
  rw [hp, dropWhile_nil, List.all_reverse, dropWhile_all, List.all_reverse]
theorem named_zero {s : ByteArray} (h : ¬ 0 < s.size) : named s.data.toList = false := by
  have : s.data.toList = [] := List.eq_nil_of_length_eq_zero (by rw [ba_len]; omega)
  simp [named, this]
theorem named_long {s : ByteArray} (h : ¬ s.size ≤ 32) : named s.data.toList = false := by
  have : decide (s.data.toList.length ≤ 32) = false := by rw [ba_len]; simp; omega
  rw [named, this]; simp
theorem named_mid {s : ByteArray} (h0 : 0 < s.size) (h : s.size ≤ 32) : named s.data.toList = s.data.toList.all nmB := by
  have h1 : decide (s.data.toList.length ≤ 32) = true := by rw [ba_len]; simp; omega
  have h2 : s.data.toList.isEmpty = false := by
    cases hl : s.data.toList
    · have := ba_len s; rw [hl] at this; simp at this; omega
    · rfl
  rw [named, h1, h2]; simp
end Go.Proofs.YtfbbkmdhnkmonaaGreatDoor
