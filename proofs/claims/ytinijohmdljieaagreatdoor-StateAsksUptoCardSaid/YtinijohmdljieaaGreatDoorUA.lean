/- A copy under way, whose box lies anywhere. -/
import Derived.Test.YtinijohmdljieaaGreatDoorH09
namespace Go.Proofs.YtinijohmdljieaaGreatDoor
open Go.RowKit

structure C3 (E : TypeId) (k rb : Nat) (w W : World) (x y z : List Value) : Prop where
  p : Own W w.heap.size E k (some ⟨w.heap.size, 0, none⟩) 1 1 x
  q : Own W w.heap.size E k (some ⟨w.heap.size + 1, 0, none⟩) 1 1 y
  r : Own W w.heap.size E k (some ⟨rb, 0, none⟩) 1 1 z
  rl : w.heap.size + 2 ≤ rb
  below : Below w.heap.size w W
section
variable {E : TypeId} {k rb : Nat} {w W W' : World} {x y z : List Value}
theorem C3.lt (h : C3 E k rb w W x y z) : rb < W.heap.size := (h.r.lt rfl).2
theorem C3.kept (h : C3 E k rb w W x y z) (hb : Below w.heap.size w W') (hk : ∀ k, k < w.heap.size + 2 ∨ k = rb → W'.heap[k]? = W.heap[k]?) : C3 E k rb w W' x y z :=
  ⟨h.p.keptB fun g hg => by cases hg; exact hk _ (.inl (by omega)), h.q.keptB fun g hg => by cases hg; exact hk _ (.inl (by omega)), h.r.keptB fun g hg => by cases hg; exact hk _ (.inr rfl), h.rl, hb⟩
theorem C3.call (h : C3 E k rb w W x y z) (hb : Below W.heap.size W W') : C3 E k rb w W' x y z :=
  h.kept (h.below.trans (hb.mono h.below.size)) fun k hk => hb.block k (by have := h.lt; have := h.rl; omega)
theorem C3.setR (h : C3 E k rb w W x y z) (j : Nat) (v : Value) : C3 E k rb w (W.setCell ⟨rb, j, none⟩ v) x y (z.set j v) :=
  ⟨h.p.setCell (a := ⟨rb, j, none⟩) (fun g hg => by cases hg; have := h.rl; show _ ≠ rb; omega) v, h.q.setCell (a := ⟨rb, j, none⟩) (fun g hg => by cases hg; have := h.rl; show _ ≠ rb; omega) v, h.r.set v, h.rl, h.below.setCell (p := ⟨rb, j, none⟩) (by have := h.rl; show w.heap.size ≤ rb; omega) v⟩
theorem C3.setQ (h : C3 E k rb w W x y z) (j : Nat) (v : Value) : C3 E k rb w (W.setCell ⟨w.heap.size + 1, j, none⟩ v) x (y.set j v) z :=
  ⟨h.p.setCell (a := ⟨w.heap.size + 1, j, none⟩) (fun g hg => by cases hg; show _ ≠ w.heap.size + 1; omega) v, h.q.set v, h.r.setCell (a := ⟨w.heap.size + 1, j, none⟩) (fun g hg => by cases hg; have := h.rl; show _ ≠ w.heap.size + 1; omega) v, h.rl, h.below.setCell (p := ⟨w.heap.size + 1, j, none⟩) (by show w.heap.size ≤ w.heap.size + 1; omega) v⟩
theorem C3.cp (h : C3 E k rb w W x y z) (j : Nat) (v : Value) (hj : x[j]? = some v) : W.cell? ⟨w.heap.size, j, none⟩ = some v := h.p.cellAt j hj
theorem C3.cq (h : C3 E k rb w W x y z) (j : Nat) (v : Value) (hj : y[j]? = some v) : W.cell? ⟨w.heap.size + 1, j, none⟩ = some v := h.q.cellAt j hj
theorem C3.cr (h : C3 E k rb w W x y z) (j : Nat) (v : Value) (hj : z[j]? = some v) : W.cell? ⟨rb, j, none⟩ = some v := h.r.cellAt j hj
theorem C3.fq (h : C3 E k rb w W x y z) (j : Nat) : W.frozen? ⟨w.heap.size + 1, j, none⟩ = false := h.q.frozenAt j
theorem C3.fr (h : C3 E k rb w W x y z) (j : Nat) : W.frozen? ⟨rb, j, none⟩ = false := h.r.frozenAt j
end
structure UB (E : TypeId) (k rb : Nat) (fs : List (D × Value)) (w W : World) (x y z : List Value) : Prop where
  bx : C3 E k rb w W x y z
  ms : ∀ p ∈ fs, Mem true (fun b => w.heap.size + 2 ≤ b ∧ b ≠ rb) W p.1 p.2
section
variable {E : TypeId} {k rb : Nat} {fs : List (D × Value)} {w W W' : World} {x y z : List Value}
theorem UB.call (h : UB E k rb fs w W x y z) (hb : Below W.heap.size W W') : UB E k rb fs w W' x y z := ⟨h.bx.call hb, fun p hp => (h.ms p hp).grow hb⟩
theorem UB.setR (h : UB E k rb fs w W x y z) (j : Nat) (v : Value) : UB E k rb fs w (W.setCell ⟨rb, j, none⟩ v) x y (z.set j v) :=
  ⟨h.bx.setR j v, fun p hp => (h.ms p hp).kept (fun b hb _ => Below.heap_setCell W ⟨rb, j, none⟩ v b (by have := hb.2; show b ≠ rb; omega)) (by simp [World.setCell])⟩
theorem UB.setQ (h : UB E k rb fs w W x y z) (j : Nat) (v : Value) : UB E k rb fs w (W.setCell ⟨w.heap.size + 1, j, none⟩ v) x (y.set j v) z :=
  ⟨h.bx.setQ j v, fun p hp => (h.ms p hp).kept (fun b hb _ => Below.heap_setCell W ⟨w.heap.size + 1, j, none⟩ v b (by have := hb.1; show b ≠ w.heap.size + 1; omega)) (by simp [World.setCell])⟩
/-- a field more -/
theorem UB.add (h : UB E k rb fs w W x y z) {d : D} {v : Value} (hm : Mem true (fun b => w.heap.size + 2 ≤ b ∧ b ≠ rb) W d v) : UB E k rb ((d, v) :: fs) w W x y z :=
  ⟨h.bx, fun p hp => by
    rcases List.mem_cons.1 hp with rfl | hp
    · exact hm
    · exact h.ms p hp⟩
/-- a call that makes a field -/
theorem UB.made (h : UB E k rb fs w W x y z) (hb : Below W.heap.size W W') {d : D} {v : Value} (hm : Mem true (From W.heap.size) W' d v) : UB E k rb ((d, v) :: fs) w W' x y z :=
  (h.call hb).add (hm.weak fun b hb2 _ => by have : W.heap.size ≤ b := hb2; have := h.bx.lt; have := h.bx.rl; exact ⟨by omega, by omega⟩)
end
/-- .. and a list that is being built -/
structure UA {α : Type} (E : TypeId) (k rb : Nat) (fs : List (D × Value)) (E2 : TypeId) (k2 : Nat) (f : α → List D) (w W : World) (x y z : List Value) (M : Nat) (va : Option Addr) (vc : Nat) (xs : List α) (vs : List (List Value)) : Prop where
  bx : C3 E k rb w W x y z
  ms : ∀ p ∈ fs, Mem true (fun b => (w.heap.size + 2 ≤ b ∧ b ≠ rb) ∧ b < M) W p.1 p.2
  ac : Acc E2 k2 f M W va vc xs vs
  bM : rb < M
  ml : M ≤ W.heap.size
section
variable {α : Type} {E : TypeId} {k rb : Nat} {fs : List (D × Value)} {E2 : TypeId} {k2 : Nat} {f : α → List D} {w W W' : World} {x y z : List Value} {M : Nat} {va : Option Addr} {vc : Nat} {xs : List α} {vs : List (List Value)}
theorem UA.start (h : UB E k rb fs w W x y z) (E2 : TypeId) (k2 : Nat) (f : α → List D) : UA E k rb fs E2 k2 f w W x y z W.heap.size none 0 [] [] :=
  ⟨h.bx, fun p hp => (h.ms p hp).weak fun _ hb hl => ⟨hb, hl⟩, Acc.start _ _ _ _ _, h.bx.lt, Nat.le_refl _⟩
theorem UA.call (h : UA E k rb fs E2 k2 f w W x y z M va vc xs vs) (hb : Below W.heap.size W W') : UA E k rb fs E2 k2 f w W' x y z M va vc xs vs :=
  ⟨h.bx.call hb, fun p hp => (h.ms p hp).grow hb, h.ac.call hb, h.bM, Nat.le_trans h.ml hb.size⟩
theorem UA.setR (h : UA E k rb fs E2 k2 f w W x y z M va vc xs vs) (j : Nat) (v : Value) : UA E k rb fs E2 k2 f w (W.setCell ⟨rb, j, none⟩ v) x y (z.set j v) M va vc xs vs :=
  ⟨h.bx.setR j v, fun p hp => (h.ms p hp).kept (fun b hb _ => Below.heap_setCell W ⟨rb, j, none⟩ v b (by have := hb.1.2; show b ≠ rb; omega)) (by simp [World.setCell]), h.ac.far h.bM v, h.bM, by have := h.ml; simpa [World.setCell] using this⟩
theorem UA.blk (h : UA E k rb fs E2 k2 f w W x y z M va vc xs vs) : ∀ q, blockOf va = some q → va = some ⟨q, 0, none⟩ := by
  intro q hq
  rcases h.ac.own.block with ⟨rfl, _⟩ | ⟨gr, rfl, _⟩
  · cases hq
  · injection hq with hq; rw [← hq]
/-- an element more -/
theorem UA.push {Pr : Program} {T : TypeId} {bytes : Nat} (h : UA E k rb fs E2 k2 f w W x y z M va vc xs vs) (hE : Elem Pr T E2 k2 bytes) (ty : TypeId) (hb : Below W.heap.size W W') {e : α} {us : List Value} (hu : us.length = k2) (hx : (f e).length = k2)
    (hm : MemL true (From W.heap.size) W' (f e) us) (h1 : ∀ u ∈ us, u.oneCell' = true) (h63 : xs.length + 1 ≤ maxLen) (hbytes : (xs.length + 1) * bytes ≤ 140737488355328) :
    ∃ g' vc' W8, (Builtin.append_ #[T, T] ty #[.slice va xs.length vc, .slice (some ⟨W'.heap.size, 0, none⟩) 1 1]).run Pr (W'.alloc (.cells us.toArray E2)) = .ok (.slice (some ⟨g', 0, none⟩) (xs.length + 1) vc') W8 ∧
      UA E k rb fs E2 k2 f w W8 x y z M (some ⟨g', 0, none⟩) vc' (xs ++ [e]) (vs ++ [us]) ∧ (W'.alloc (.cells us.toArray E2)).grownBy W8 (blockOf va) := by
  obtain ⟨g', vc', W8, hrun, hA, hg⟩ := h.ac.push hE ty h.ml hb hu hx hm h1 h63 hbytes
  have hz := hb.size
  have hml := h.ml
  have hbM := h.bM
  have hrl := h.bx.rl
  have hblk : ∀ q, q < W.heap.size → (∀ g, va = some ⟨g, 0, none⟩ → q ≠ g) → W8.heap[q]? = W.heap[q]? := by
    intro q hq hne
    have h2 : W8.heap[q]? = (W'.alloc (.cells us.toArray E2)).heap[q]? := hg.block q (by simp; omega) fun he => hne q (h.blk q he.symm) rfl
    rw [h2, Below.heap_alloc W' _ q (by omega)]
    exact hb.block q hq
  have hbel : Below w.heap.size w W8 := by
    refine ((h.bx.below.trans (hb.mono h.bx.below.size)).alloc (by have := h.bx.below.size; omega) _).grown hg (by have := h.bx.below.size; simp; omega) fun q hq => ?_
    have := (h.ac.own.lt (h.blk q hq)).1
    omega
  have hne : ∀ q, q < M → ∀ g, va = some ⟨g, 0, none⟩ → q ≠ g := fun q hq g hg2 => by have := (h.ac.own.lt hg2).1; omega
  have hsz : W.heap.size ≤ W8.heap.size := by have := hg.size; simp at this; omega
  exact ⟨g', vc', W8, hrun, ⟨h.bx.kept hbel fun q hq => hblk q (by omega) (hne q (by omega)), fun p hp => (h.ms p hp).kept (fun q hq hl => hblk q hl (hne q hq.2)) hsz, hA, hbM, by omega⟩, hg⟩
theorem UA.took {l : List α} {m : Nat} (hm : m < l.length) (h : UA E k rb fs E2 k2 f w W x y z M va vc (l.take m ++ [l[m]]) vs) : UA E k rb fs E2 k2 f w W x y z M va vc (l.take (m + 1)) vs := by
  rw [List.take_succ_eq_append_getElem hm]; exact h
/-- the list is done -/
theorem UA.done (h : UA E k rb fs E2 k2 f w W x y z M va vc xs vs) (hk : 0 < k2) : UB E k rb ((.list k2 (xs.map f), .slice va xs.length vc) :: fs) w W x y z :=
  UB.add ⟨h.bx, fun p hp => (h.ms p hp).weak fun b hb _ => hb.1⟩ ((h.ac.done hk).weak fun b hb _ => by have := h.bM; have := h.bx.rl; have := hb.1; exact ⟨by omega, by omega⟩)
end
end Go.Proofs.YtinijohmdljieaaGreatDoor
