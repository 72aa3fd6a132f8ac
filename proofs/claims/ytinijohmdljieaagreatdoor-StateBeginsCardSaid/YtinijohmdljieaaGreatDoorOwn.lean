/- Slices that a call itself makes and appends to. -/
import Derived.Test.YtinijohmdljieaaGreatDoorBase
import Derived.OwnWalk
import Derived.WalkSmall
import Derived.Laws.MakeOwn
namespace Go.Proofs.YtinijohmdljieaaGreatDoor
open Go.RowKit

/-- the row of the type's table -/
structure Elem (P : Program) (T E : TypeId) (k bytes : Nat) : Prop where
  sl : P.underlying T = some (.slice E)
  info : ∃ z : Value, (P.info? E).map (fun i => (i.zero, i.size, i.bytes)) = some (some z, k, bytes) ∧ z.cells.size = k
  pos : 0 < k
  size : ∀ w, (sizeOf E).run P w = .ok k w

structure Own (w : World) (base : Nat) (E : TypeId) (k : Nat) (va : Option Addr) (vc n : Nat) (cells : List Value) : Prop where
  row : w.ownsRow base E k (.slice va n vc) n cells

section
variable {P : Program} {T E : TypeId} {k bytes : Nat} {w w' : World} {base vc n : Nat} {va : Option Addr} {cells : List Value}

theorem Own.nil (w : World) (base : Nat) (E : TypeId) (k : Nat) : Own w base E k none 0 0 [] := ⟨by simp, .inl ⟨rfl, rfl⟩⟩
theorem Own.length (h : Own w base E k va vc n cells) : cells.length = n * k := h.row.1
theorem Own.cap (h : Own w base E k va vc n cells) : n ≤ vc ∧ vc ≤ maxLen := by
  rcases h.row.2 with ⟨h1, rfl⟩ | ⟨g, cap, cur, h1, _, _, h2, h3, _⟩
  · cases h1; exact ⟨Nat.le_refl _, by simp⟩
  · cases h1; exact ⟨h2, h3⟩
theorem Own.block (h : Own w base E k va vc n cells) : (va = none ∧ n = 0 ∧ vc = 0) ∨ ∃ g, va = some ⟨g, 0, none⟩ ∧ base ≤ g ∧ g < w.heap.size ∧ ∃ cur, w.heap[g]? = some (.cells cur E (0, 0)) ∧ n * k ≤ cur.size ∧ cur.size = vc * k ∧ cur.toList.take (n * k) = cells := by
  rcases h.row.2 with ⟨h1, rfl⟩ | ⟨g, cap, cur, h1, h2, h3, h4, h5, h6, h7⟩
  · cases h1; exact .inl ⟨rfl, rfl, rfl⟩
  · cases h1
    exact .inr ⟨g, rfl, h2, (Array.getElem?_eq_some_iff.1 h3).1, cur, h3, by rw [h6]; exact Nat.mul_le_mul_right _ h4, h6, h7⟩
/-- the cells of an own slice -/
theorem Own.cell (h : Own w base E k va vc n cells) (hk : 0 < n * k) : ∃ g, va = some ⟨g, 0, none⟩ ∧ base ≤ g ∧ g < w.heap.size ∧ (∀ j u, cells[j]? = some u → w.cell? ⟨g, j, none⟩ = some u) ∧ ∀ j, w.frozen? ⟨g, j, none⟩ = false := by
  rcases h.block with ⟨_, rfl, _⟩ | ⟨g, rfl, h1, h2, cur, h3, h4, _, h5⟩
  · simp at hk
  · refine ⟨g, rfl, h1, h2, fun j u hj => ?_, fun j => ?_⟩
    · rw [← h5, List.getElem?_take] at hj
      split at hj
      · simp only [World.cell?, h3]
        simpa using hj
      · cases hj
    · simp [World.frozen?, h3]
theorem Own.keptB (h : Own w base E k va vc n cells) (hh : ∀ g, va = some ⟨g, 0, none⟩ → w'.heap[g]? = w.heap[g]?) : Own w' base E k va vc n cells := by
  refine ⟨h.row.1, ?_⟩
  rcases h.row.2 with h1 | ⟨g, cap, cur, h1, h2, h3, h4⟩
  · exact .inl h1
  · cases h1
    exact .inr ⟨g, vc, cur, rfl, h2, (hh g rfl).trans h3, h4⟩
theorem Own.lt (h : Own w base E k va vc n cells) {g : Nat} (hg : va = some ⟨g, 0, none⟩) : base ≤ g ∧ g < w.heap.size := by
  rcases h.block with ⟨h1, _⟩ | ⟨g', h1, h2, h3, _⟩
  · rw [h1] at hg; cases hg
  · rw [h1] at hg; cases hg; exact ⟨h2, h3⟩
theorem Own.alloc (h : Own w base E k va vc n cells) (o : Obj) : Own (w.alloc o) base E k va vc n cells := h.keptB fun g hg => Below.heap_alloc w o g (h.lt hg).2
theorem Own.drew (h : Own w base E k va vc n cells) : Own w.drew base E k va vc n cells := h.keptB fun _ _ => rfl
theorem Own.drewN (h : Own w base E k va vc n cells) (q : Nat) : Own (w.drewN q) base E k va vc n cells := h.keptB fun _ _ => rfl
theorem Own.below {B : Nat} (h : Own w base E k va vc n cells) (hb : Below B w w') (hB : w.heap.size ≤ B) : Own w' base E k va vc n cells := h.keptB fun g hg => hb.block g (Nat.lt_of_lt_of_le (h.lt hg).2 hB)
theorem Own.setCell (h : Own w base E k va vc n cells) {a : Addr} (hne : ∀ g, va = some ⟨g, 0, none⟩ → g ≠ a.block) (u : Value) : Own (w.setCell a u) base E k va vc n cells := h.keptB fun g hg => Below.heap_setCell w a u g (hne g hg)
theorem Own.grown {row : Option Nat} (h : Own w base E k va vc n cells) (hg : w.grownBy w' row) (hne : ∀ g, va = some ⟨g, 0, none⟩ → some g ≠ row) : Own w' base E k va vc n cells := h.keptB fun g hg' => hg.block g (h.lt hg').2 (hne g hg')
theorem Own.base_le (h : Own w base E k va vc n cells) {b2 : Nat} (hb : b2 ≤ base) : Own w b2 E k va vc n cells := by
  refine ⟨h.row.1, ?_⟩
  rcases h.row.2 with h1 | ⟨g, cap, cur, h1, h2, h3⟩
  · exact .inl h1
  · exact .inr ⟨g, cap, cur, h1, Nat.le_trans hb h2, h3⟩

/-- 's = s[:len(s)-1]' -/
theorem Own.pop {xs last : List Value} (hx : xs.length = n * k) (h : Own w base E k va vc (n + 1) (xs ++ last)) : Own w base E k va vc n xs := by
  rcases h.block with ⟨_, h0, _⟩ | ⟨g, rfl, _⟩
  · omega
  · exact ⟨ownsRow_pop hx h.row⟩

def blockOf : Option Addr → Option Nat
  | some a => some a.block
  | none => none

theorem run_append_zero (hE : Elem P T E k bytes) (w : World) (ty : TypeId) (a a2 : Option Addr) (c c2 : Nat) (hn : n ≤ c) :
    (Builtin.append_ #[T, T] ty #[.slice a n c, .slice a2 0 c2]).run P w = .ok (.slice a n c) w := by
  have h1 := hE.sl
  have h2 := hE.size w
  cases a <;> cases a2 <;> simp [Builtin.append_, run_underlying h1, h2, Result.andThen, Builtin.lenOf, Builtin.firstCells, hn, loadCells, loadCellsFrom, storeCells]

/-- 's = append(s, x...)' -/
theorem Own.app (hE : Elem P T E k bytes) (ty : TypeId) (h : Own w base E k va vc n cells) (hbase : base ≤ w.heap.size)
    (a : Option Addr) (m c b off : Nat) (news : List Value) (hl : news.length = m * k) (ha : 0 < m → a = some ⟨b, off, none⟩) (hnews : ∀ j u, news[j]? = some u → w.cell? ⟨b, off + j, none⟩ = some u) (h1 : ∀ u ∈ news, u.oneCell' = true)
    (h63 : n + m ≤ maxLen) (hbytes : (n + m) * bytes ≤ 140737488355328) :
    ∃ va' vc' w', (Builtin.append_ #[T, T] ty #[.slice va n vc, .slice a m c]).run P w = .ok (.slice va' (n + m) vc') w' ∧ Own w' base E k va' vc' (n + m) (cells ++ news) ∧ w.grownBy w' (blockOf va) := by
  by_cases hm : 0 < m
  · obtain rfl := ha hm
    obtain ⟨z, hz, hzs⟩ := hE.info
    obtain ⟨i, hi, hz0, hz1, hz2⟩ := info_parts hz
    obtain ⟨v', w', hrun, hown, hg, -⟩ := run_append_own (P := P) w base T ty E i z k bytes hE.sl hi hz0 hz1 hz2 hzs hE.pos (.slice va n vc) n cells h.row ⟨b, off, none⟩ m c news hl (fun j u hj => by rw [Addr.add_lit]; exact hnews j u hj) h1 h63 hbytes hbase
    have hv : ∃ va' vc', v' = .slice va' (n + m) vc' := by
      rcases hown.2 with ⟨hv, h0⟩ | ⟨g, cap, _, hv, _⟩
      · exact ⟨none, 0, by rw [hv, h0]⟩
      · exact ⟨_, _, hv⟩
    obtain ⟨va', vc', rfl⟩ := hv
    refine ⟨va', vc', w', hrun, ⟨hown⟩, ?_⟩
    cases va <;> exact hg
  · obtain rfl : m = 0 := by omega
    have : news = [] := List.eq_nil_of_length_eq_zero (by simpa using hl)
    subst this
    exact ⟨va, vc, w, run_append_zero hE w ty va a vc c h.cap.1, by simpa using h, World.grownBy.refl _ _⟩

/-- 's[j] = u' -/
theorem Own.set {g j : Nat} (h : Own w base E k (some ⟨g, 0, none⟩) vc n cells) (u : Value) : Own (w.setCell ⟨g, j, none⟩ u) base E k (some ⟨g, 0, none⟩) vc n (cells.set j u) := by
  refine ⟨by simp [h.length], .inr ?_⟩
  rcases h.row.2 with ⟨h1, _⟩ | ⟨g', cap, cur, h1, h2, h3, h4, h5, h6, h7⟩
  · cases h1
  · cases h1
    refine ⟨g, vc, cur.setIfInBounds j u, rfl, h2, ?_, h4, h5, by simpa using h6, ?_⟩
    · simp only [World.setCell, Array.getElem?_modify, h3]
      simp
    · rw [← h7]
      simp [List.take_set]
/-- 'make([]T, n)' -/
theorem Own.make (hE : Elem P T E k bytes) (hb : base ≤ w.heap.size) (z : Value) (hz : (P.info? E).map (fun i => i.zero) = some (some z)) (hbytes : bytes * n ≤ 281474976710656) (hn : n ≤ maxLen) :
    ∃ w', (Instr.makeSlice T (.int .i64 n) (.int .i64 n)).run P w = .ok (.slice (some ⟨w.heap.size, 0, none⟩) n n) w' ∧ Own w' base E k (some ⟨w.heap.size, 0, none⟩) n n (madeCells z.cells (n * k)).toList ∧ w.grownBy w' none := by
  obtain ⟨z', hz1, hzs⟩ := hE.info
  obtain ⟨i, hi, hz0, hz1, hz2⟩ := info_parts hz1
  rw [hi] at hz
  simp at hz
  obtain ⟨w', hrun, r1, r2⟩ := run_make_full (P := P) w base T E i z k hE.sl hi hz hz1 .i64 .i64 n (by rw [hz2]; exact hbytes) hn hb
  exact ⟨w', hrun, ⟨r1⟩, r2⟩
end

/-- an append whose run is known -/
theorem wpList_append_run {P : Program} {w : World} {ops : Array Oper} {rest : List Oper} {o : Oper} {a : Act} {Q : Exit → Act → World → Prop} (hgd : o.guard = none) (s x : Operand) (t : TypeId)
    (ho : o.op = .call { callee := .builtin .append, args := #[s, x], argTypes := #[t, t] }) {v xv v' : Value} {w' : World} (hs : a.eval s = v) (hx : a.eval x = xv)
    (hr : (Builtin.append_ #[t, t] o.type #[v, xv]).run P w = .ok v' w') (h : wpList P ops Q rest (a.put o.dst v') w') : wpList P ops Q (o :: rest) a w :=
  wpList_plain hgd fun K hK => by
    unfold Oper.wp execOp
    simp only [ho, resolve, invoke, builtin, Sem.run_bind, Sem.run_pure, Result.andThen_ok, List.map_toArray, List.map_cons, List.map_nil, hs, hx, hr]
    exact hK _ _ h
/-- the same at a step of a region that draws its order -/
theorem step_append_run {P : Program} {w : World} {ops : Array Oper} {o : Oper} {a : Act} {K : Act → World → Prop} {Q : Exit → Act → World → Prop} {E : Prop} (hgd : o.guard = none) (s x : Operand) (t : TypeId)
    (ho : o.op = .call { callee := .builtin .append, args := #[s, x], argTypes := #[t, t] }) {v xv v' : Value} {w' : World} (hs : a.eval s = v) (hx : a.eval x = xv)
    (hr : (Builtin.append_ #[t, t] o.type #[v, xv]).run P w = .ok v' w') (h : K (a.put o.dst v') w') :
    if Region.wanted o (yielded ops a.tmps) = true then Oper.wp P o a w K Q else E := by
  have hw : Region.wanted o (yielded ops a.tmps) = true := by simp [Region.wanted, hgd]
  rw [if_pos hw]
  unfold Oper.wp execOp
  simp only [ho, resolve, invoke, builtin, Sem.run_bind, Sem.run_pure, Result.andThen_ok, List.map_toArray, List.map_cons, List.map_nil, hs, hx, hr]
  exact h
end Go.Proofs.YtinijohmdljieaaGreatDoor
