/- Three boxes of one type: what came, the result, what is under way. docketref16.Twin. -/
import Derived.Test.YtinijohmdljieaaGreatDoorH07
import Derived.Deep.RegionHeld3
namespace Go.Proofs.YtinijohmdljieaaGreatDoor
open Go.RowKit

structure B3 (E : TypeId) (k : Nat) (w W : World) (x y z : List Value) : Prop where
  p : Own W w.heap.size E k (some ⟨w.heap.size, 0, none⟩) 1 1 x
  q : Own W w.heap.size E k (some ⟨w.heap.size + 1, 0, none⟩) 1 1 y
  r : Own W w.heap.size E k (some ⟨w.heap.size + 2, 0, none⟩) 1 1 z
  below : Below w.heap.size w W
section
variable {E : TypeId} {k : Nat} {w W W' : World} {x y z : List Value}
theorem B3.lt (h : B3 E k w W x y z) : w.heap.size + 2 < W.heap.size := (h.r.lt rfl).2
theorem B3.kept (h : B3 E k w W x y z) (hb : Below w.heap.size w W') (hk : ∀ k, k < w.heap.size + 3 → W'.heap[k]? = W.heap[k]?) : B3 E k w W' x y z :=
  ⟨h.p.keptB fun g hg => by cases hg; exact hk _ (by omega), h.q.keptB fun g hg => by cases hg; exact hk _ (by omega), h.r.keptB fun g hg => by cases hg; exact hk _ (by omega), hb⟩
theorem B3.call (h : B3 E k w W x y z) (hb : Below W.heap.size W W') : B3 E k w W' x y z :=
  h.kept (h.below.trans (hb.mono h.below.size)) fun k hk => hb.block k (by have := h.lt; omega)
theorem B3.setR (h : B3 E k w W x y z) (j : Nat) (v : Value) : B3 E k w (W.setCell ⟨w.heap.size + 2, j, none⟩ v) x y (z.set j v) :=
  ⟨h.p.setCell (a := ⟨w.heap.size + 2, j, none⟩) (fun g hg => by cases hg; show _ ≠ w.heap.size + 2; omega) v, h.q.setCell (a := ⟨w.heap.size + 2, j, none⟩) (fun g hg => by cases hg; show _ ≠ w.heap.size + 2; omega) v, h.r.set v, h.below.setCell (p := ⟨w.heap.size + 2, j, none⟩) (by show w.heap.size ≤ w.heap.size + 2; omega) v⟩
theorem B3.setQ (h : B3 E k w W x y z) (j : Nat) (v : Value) : B3 E k w (W.setCell ⟨w.heap.size + 1, j, none⟩ v) x (y.set j v) z :=
  ⟨h.p.setCell (a := ⟨w.heap.size + 1, j, none⟩) (fun g hg => by cases hg; show _ ≠ w.heap.size + 1; omega) v, h.q.set v, h.r.setCell (a := ⟨w.heap.size + 1, j, none⟩) (fun g hg => by cases hg; show _ ≠ w.heap.size + 1; omega) v, h.below.setCell (p := ⟨w.heap.size + 1, j, none⟩) (by show w.heap.size ≤ w.heap.size + 1; omega) v⟩
theorem B3.cp (h : B3 E k w W x y z) (j : Nat) (v : Value) (hj : x[j]? = some v) : W.cell? ⟨w.heap.size, j, none⟩ = some v := h.p.cellAt j hj
theorem B3.cq (h : B3 E k w W x y z) (j : Nat) (v : Value) (hj : y[j]? = some v) : W.cell? ⟨w.heap.size + 1, j, none⟩ = some v := h.q.cellAt j hj
theorem B3.cr (h : B3 E k w W x y z) (j : Nat) (v : Value) (hj : z[j]? = some v) : W.cell? ⟨w.heap.size + 2, j, none⟩ = some v := h.r.cellAt j hj
theorem B3.fq (h : B3 E k w W x y z) (j : Nat) : W.frozen? ⟨w.heap.size + 1, j, none⟩ = false := h.q.frozenAt j
theorem B3.fr (h : B3 E k w W x y z) (j : Nat) : W.frozen? ⟨w.heap.size + 2, j, none⟩ = false := h.r.frozenAt j
theorem B3.start (w : World) (E : TypeId) (k : Nat) (x y z : Array Value) (hx : x.size = k) (hy : y.size = k) (hz : z.size = k) : B3 E k w (((w.alloc (.cells x E)).alloc (.cells y E)).alloc (.cells z E)) x.toList y.toList z.toList := by
  have e1 : (w.alloc (.cells x E)).heap.size = w.heap.size + 1 := by simp
  have e2 : ((w.alloc (.cells x E)).alloc (.cells y E)).heap.size = w.heap.size + 2 := by simp
  have h2 := ownBox (w.alloc (.cells x E)) y E k w.heap.size (by omega) hy
  have h3 := ownBox ((w.alloc (.cells x E)).alloc (.cells y E)) z E k w.heap.size (by omega) hz
  rw [e1] at h2
  rw [e2] at h3
  exact ⟨((ownBox w x E k _ (Nat.le_refl _) hx).alloc _).alloc _, h2.alloc _, h3, (((Below.refl _ _).alloc (Nat.le_refl _) _).alloc (by omega) _).alloc (by omega) _⟩
end
/-- a list that is built element by element: each element's data is new, in no place of the list's own -/
structure Acc {α : Type} (E : TypeId) (k : Nat) (f : α → List D) (base : Nat) (W : World) (va : Option Addr) (vc : Nat) (xs : List α) (vs : List (List Value)) : Prop where
  own : Own W base E k va vc xs.length vs.flatten
  len : vs.length = xs.length
  wid : ∀ v ∈ vs, v.length = k
  fw : ∀ x ∈ xs, (f x).length = k
  mem : ∀ j (h1 : j < xs.length) (h2 : j < vs.length), MemL true (fun b => base ≤ b ∧ ∀ g, va = some ⟨g, 0, none⟩ → b ≠ g) W (f xs[j]) vs[j]
section
variable {α : Type} {E : TypeId} {k : Nat} {f : α → List D} {base : Nat} {W W' : World} {va : Option Addr} {vc : Nat} {xs : List α} {vs : List (List Value)}
theorem Acc.start (E : TypeId) (k : Nat) (f : α → List D) (base : Nat) (W : World) : Acc E k f base W none 0 [] [] :=
  ⟨Own.nil _ _ _ _, rfl, fun v hv => absurd hv (by simp), fun x hx => absurd hx (by simp), fun j h1 => absurd h1 (by simp)⟩
theorem Acc.kept (h : Acc E k f base W va vc xs vs) (hk : ∀ b, base ≤ b → b < W.heap.size → W'.heap[b]? = W.heap[b]?) (hs : W.heap.size ≤ W'.heap.size) : Acc E k f base W' va vc xs vs :=
  ⟨h.own.keptB fun g hg => hk g (h.own.lt hg).1 (h.own.lt hg).2, h.len, h.wid, h.fw, fun j h1 h2 => (h.mem j h1 h2).kept (fun b hb hl => hk b hb.1 hl) hs⟩
theorem Acc.call (h : Acc E k f base W va vc xs vs) (hb : Below W.heap.size W W') : Acc E k f base W' va vc xs vs := h.kept (fun b _ hl => hb.block b hl) hb.size
theorem Acc.far (h : Acc E k f base W va vc xs vs) {a : Addr} (ha : a.block < base) (v : Value) : Acc E k f base (W.setCell a v) va vc xs vs :=
  h.kept (fun b hb _ => Below.heap_setCell W a v b (by omega)) (by simp [World.setCell])
/-- an element more -/
theorem Acc.app (h : Acc E k f base W va vc xs vs) {x : α} {us : List Value} (hu : us.length = k) (hx : (f x).length = k) (hm : MemL true (fun b => base ≤ b ∧ ∀ g, va = some ⟨g, 0, none⟩ → b ≠ g) W (f x) us) {g' vc' : Nat}
    (ho : Own W' base E k (some ⟨g', 0, none⟩) vc' (xs.length + 1) (vs.flatten ++ us)) (hg : W.grownBy W' (blockOf va)) (hat : va = some ⟨g', 0, none⟩ ∨ g' = W.heap.size) :
    Acc E k f base W' (some ⟨g', 0, none⟩) vc' (xs ++ [x]) (vs ++ [us]) := by
  have hva : ∀ q, blockOf va = some q → va = some ⟨q, 0, none⟩ := by
    intro q hq
    rcases h.own.block with ⟨rfl, _⟩ | ⟨gr, rfl, _⟩
    · cases hq
    · injection hq with hq; rw [← hq]
  have tr : ∀ ds us, MemL true (fun b => base ≤ b ∧ ∀ g, va = some ⟨g, 0, none⟩ → b ≠ g) W ds us → MemL true (fun b => base ≤ b ∧ ∀ g, (some ⟨g', 0, none⟩ : Option Addr) = some ⟨g, 0, none⟩ → b ≠ g) W' ds us := by
    intro ds us hd
    have h1 := hd.weak (P' := fun b => b < W.heap.size ∧ base ≤ b ∧ ∀ g, va = some ⟨g, 0, none⟩ → b ≠ g) fun b hb hl => ⟨hl, hb⟩
    have h2 := h1.kept (w' := W') (fun b hb hl => hg.block b hl fun he => hb.2.2 b (hva b he.symm) rfl) hg.size
    refine h2.weak fun b hb _ => ⟨hb.2.1, fun g hg' => ?_⟩
    cases hg'
    rcases hat with hv | hv
    · exact hb.2.2 g' hv
    · have := hb.1; omega
  have hl := h.len
  refine ⟨by simpa using ho, by simp [hl], fun v hv => ?_, fun y hy => ?_, fun j h1 h2 => ?_⟩
  · rcases List.mem_append.1 hv with h3 | h3
    · exact h.wid v h3
    · rw [List.mem_singleton] at h3; rw [h3]; exact hu
  · rcases List.mem_append.1 hy with h3 | h3
    · exact h.fw y h3
    · rw [List.mem_singleton] at h3; rw [h3]; exact hx
  · by_cases hj : j < xs.length
    · rw [List.getElem_append_left hj, List.getElem_append_left (by omega)]
      exact tr _ _ (h.mem j hj (by omega))
    · have hje : j = xs.length := by simp at h1; omega
      subst hje
      rw [List.getElem_append_right (Nat.le_refl _), List.getElem_append_right (by omega)]
      simp only [hl, Nat.sub_self, List.getElem_cons_zero]
      exact tr _ _ hm
/-- 'out = append(out, x)', x being new since W -/
theorem Acc.push {Pr : Program} {T : TypeId} {bytes : Nat} (hE : Elem Pr T E k bytes) (ty : TypeId) (h : Acc E k f base W va vc xs vs) (hbase : base ≤ W.heap.size) (hb : Below W.heap.size W W') {x : α} {us : List Value} (hu : us.length = k) (hx : (f x).length = k)
    (hm : MemL true (From W.heap.size) W' (f x) us) (h1 : ∀ u ∈ us, u.oneCell' = true) (h63 : xs.length + 1 ≤ maxLen) (hbytes : (xs.length + 1) * bytes ≤ 140737488355328) :
    ∃ g' vc' W8, (Builtin.append_ #[T, T] ty #[.slice va xs.length vc, .slice (some ⟨W'.heap.size, 0, none⟩) 1 1]).run Pr (W'.alloc (.cells us.toArray E)) = .ok (.slice (some ⟨g', 0, none⟩) (xs.length + 1) vc') W8 ∧ Acc E k f base W8 (some ⟨g', 0, none⟩) vc' (xs ++ [x]) (vs ++ [us]) ∧
      (W'.alloc (.cells us.toArray E)).grownBy W8 (blockOf va) := by
  have hA : Acc E k f base (W'.alloc (.cells us.toArray E)) va vc xs vs := (h.call hb).call ((Below.refl _ _).alloc (Nat.le_refl _) _)
  have hbx := ownBox W' us.toArray E k W'.heap.size (Nat.le_refl _) (by simpa using hu)
  obtain ⟨g', vc', W8, hrun, hO, hg, hat⟩ := Own.appAt hE ty hA.own (by simp; have := hb.size; omega) W'.heap.size 0 1 us hu (fun j u hj => by rw [Nat.zero_add]; exact hbx.cellAt j (by simpa using hj)) h1 h63 hbytes
  refine ⟨g', vc', W8, hrun, hA.app hu hx ?_ hO hg hat, hg⟩
  refine (hm.grow ((Below.refl _ _).alloc (Nat.le_refl _) _)).weak fun b hb2 _ => ⟨?_, fun g hg2 => ?_⟩
  · have : W.heap.size ≤ b := hb2
    omega
  · have h3 := (h.own.lt hg2).2
    have : W.heap.size ≤ b := hb2
    omega
theorem Acc.done (h : Acc E k f base W va vc xs vs) (hk : 0 < k) : Mem true (In base W.heap.size) W (.list k (xs.map f)) (.slice va xs.length vc) := by
  have hl : (xs.map f).length = xs.length := List.length_map ..
  have := memOwn (es := xs.map f) (vs := vs) (by rw [hl]; exact h.own) hk (by rw [h.len, hl]) h.wid (fun e he => by
    obtain ⟨x, hx, rfl⟩ := List.mem_map.1 he
    exact h.fw x hx) (fun j h1 h2 => by
    rw [List.getElem_map]
    exact (h.mem j (by simpa using h1) h2).weak fun b hb _ => hb.1)
  rw [hl] at this
  exact this.weak fun b hb hs => ⟨hb, hs⟩
end
end Go.Proofs.YtinijohmdljieaaGreatDoor

namespace Go.Proofs.YtinijohmdljieaaGreatDoor
open Go.RowKit

theorem elemJson : Elem Tryz.prog 60 77 6 80 := ⟨Tryz.underlying60, ⟨.agg #[.int .u8 0, .bool false, .int .i64 0, .string ⟨#[]⟩, .slice none 0 0, .slice none 0 0], by kernel_rfl, rfl⟩, by omega, Tryz.sizeOf77⟩
abbrev jsonC (k : Int) (b : Bool) (i : Int) (t : ByteArray) (u v : Value) : List Value := [.int .u8 k, .bool b, .int .i64 i, .string t, u, v]
abbrev jsonZ : List Value := jsonC 0 false 0 ⟨#[]⟩ (.slice none 0 0) (.slice none 0 0)
/-- a value's cells -/
theorem IsJson.cells {o : Bool} {P : Nat → Prop} {w : World} {ds : List D} {us : List Value} (h : IsJson ds) (hm : MemL o P w ds us) :
    ∃ k b i t names es a c a2 c2, ds = [.atom (.int .u8 k), .atom (.bool b), .atom (.int .i64 i), .atom (.string t), strD names, .list 6 es] ∧ us = jsonC k b i t (.slice a names.length c) (.slice a2 es.length c2) ∧ names.length ≤ 1048576 ∧ es.length ≤ 1048576 ∧ (∀ e ∈ es, IsJson e) ∧
      Mem o P w (strD names) (.slice a names.length c) ∧ Mem o P w (.list 6 es) (.slice a2 es.length c2) := by
  obtain ⟨k, b, i, t, names, es, hn, he, hj⟩ := h
  obtain ⟨x0, y0, rfl, h0, h⟩ := MemL.inv hm
  obtain ⟨x1, y1, rfl, h1, h⟩ := h.inv
  obtain ⟨x2, y2, rfl, h2, h⟩ := h.inv
  obtain ⟨x3, y3, rfl, h3, h⟩ := h.inv
  obtain ⟨x4, y4, rfl, h4, h⟩ := h.inv
  obtain ⟨x5, y5, rfl, h5, h⟩ := h.inv
  obtain rfl := h.inv0
  obtain ⟨a, c, _, _, rfl, -, -⟩ := flat_open h4
  obtain ⟨a2, c2, _, _, _, rfl, -, -⟩ := h5.listInv
  exact ⟨k, b, i, t, names, es, a, c, a2, c2, rfl, by rw [h0.atomInv, h1.atomInv, h2.atomInv, h3.atomInv], hn, he, hj, h4, h5⟩
theorem IsJson.len {ds : List D} (h : IsJson ds) : ds.length = 6 := by cases h; rfl
/-- Twin under way: the names and m of the items are new -/
structure JT (names : List ByteArray) (es : List (List D)) (w W : World) (x y z : List Value) (va : Option Addr) (vc M m : Nat) (va2 : Option Addr) (vc2 : Nat) (vs : List (List Value)) : Prop where
  bx : B3 77 6 w W x y z
  nm : Mem true (In (w.heap.size + 3) M) W (strD names) (.slice va names.length vc)
  ac : Acc 77 6 id M W va2 vc2 (es.take m) vs
  bM : w.heap.size + 3 ≤ M
  ml : M ≤ W.heap.size
section
variable {names : List ByteArray} {es : List (List D)} {w W W' : World} {x y z : List Value} {va : Option Addr} {vc M m : Nat} {va2 : Option Addr} {vc2 : Nat} {vs : List (List Value)}
theorem JT.call (h : JT names es w W x y z va vc M m va2 vc2 vs) (hb : Below W.heap.size W W') : JT names es w W' x y z va vc M m va2 vc2 vs :=
  ⟨h.bx.call hb, h.nm.grow hb, h.ac.call hb, h.bM, Nat.le_trans h.ml hb.size⟩
theorem JT.setR (h : JT names es w W x y z va vc M m va2 vc2 vs) (j : Nat) (v : Value) : JT names es w (W.setCell ⟨w.heap.size + 2, j, none⟩ v) x y (z.set j v) va vc M m va2 vc2 vs :=
  ⟨h.bx.setR j v, h.nm.kept (fun k hk _ => Below.heap_setCell W ⟨w.heap.size + 2, j, none⟩ v k (by have := hk.1; show k ≠ w.heap.size + 2; omega)) (by simp [World.setCell]), h.ac.far (by have := h.bM; show w.heap.size + 2 < M; omega) v, h.bM, by have := h.ml; simpa [World.setCell] using this⟩
theorem JT.setQ (h : JT names es w W x y z va vc M m va2 vc2 vs) (j : Nat) (v : Value) : JT names es w (W.setCell ⟨w.heap.size + 1, j, none⟩ v) x (y.set j v) z va vc M m va2 vc2 vs :=
  ⟨h.bx.setQ j v, h.nm.kept (fun k hk _ => Below.heap_setCell W ⟨w.heap.size + 1, j, none⟩ v k (by have := hk.1; show k ≠ w.heap.size + 1; omega)) (by simp [World.setCell]), h.ac.far (by have := h.bM; show w.heap.size + 1 < M; omega) v, h.bM, by have := h.ml; simpa [World.setCell] using this⟩
/-- an item more -/
theorem JT.push (h : JT names es w W x y z va vc M m va2 vc2 vs) (hm : m < es.length) (hes : es.length ≤ 1048576) (hj : IsJson es[m]) (hb : Below W.heap.size W W') {us : List Value} (hu : MemL true (From W.heap.size) W' es[m] us) :
    ∃ g' vc' W8, (Builtin.append_ #[60, 60] 60 #[.slice va2 m vc2, .slice (some ⟨W'.heap.size, 0, none⟩) 1 1]).run Tryz.prog (W'.alloc (.cells us.toArray 77)) = .ok (.slice (some ⟨g', 0, none⟩) (m + 1) vc') W8 ∧
      JT names es w W8 x y z va vc M (m + 1) (some ⟨g', 0, none⟩) vc' (vs ++ [us]) ∧ (W'.alloc (.cells us.toArray 77)).grownBy W8 (blockOf va2) := by
  have hl : (es.take m).length = m := by rw [List.length_take]; omega
  have hul : us.length = 6 := by rw [hu.1, hj.len]
  have h1 : ∀ u ∈ us, u.oneCell' = true := by
    obtain ⟨k, b, i, t, nn, ee, a, c, a2, c2, -, rfl, -⟩ := hj.cells hu
    intro u hu
    simp only [List.mem_cons, List.not_mem_nil, or_false] at hu
    rcases hu with rfl | rfl | rfl | rfl | rfl | rfl <;> rfl
  obtain ⟨g', vc', W8, hrun, hA, hg⟩ := h.ac.push elemJson 60 h.ml hb (x := es[m]) hul hj.len hu h1 (by unfold maxLen; omega) (by omega)
  rw [hl] at hrun
  have hz := hb.size
  have hml := h.ml
  have hbM := h.bM
  have hblk : ∀ k, k < W.heap.size → (∀ g, va2 = some ⟨g, 0, none⟩ → k ≠ g) → W8.heap[k]? = W.heap[k]? := by
    intro k hk hne
    have h2 : W8.heap[k]? = (W'.alloc (.cells us.toArray 77)).heap[k]? := hg.block k (by simp; omega) fun he => by
      rcases h.ac.own.block with ⟨h3, _⟩ | ⟨g, h3, _⟩
      · rw [h3] at he; cases he
      · rw [h3] at he
        injection he with he
        exact hne g h3 he
    rw [h2, Below.heap_alloc W' _ k (by omega)]
    exact hb.block k hk
  have hbel : Below w.heap.size w W8 := by
    refine ((h.bx.below.trans (hb.mono h.bx.below.size)).alloc (by have := h.bx.below.size; omega) _).grown hg (by have := h.bx.below.size; simp; omega) fun k hk => ?_
    rcases h.ac.own.block with ⟨h3, _⟩ | ⟨g, h3, h4, _⟩
    · rw [h3] at hk; cases hk
    · rw [h3] at hk
      injection hk with hk
      have : g = k := hk
      omega
  have hne : ∀ k, k < M → ∀ g, va2 = some ⟨g, 0, none⟩ → k ≠ g := fun k hk g hg2 => by have := (h.ac.own.lt hg2).1; omega
  refine ⟨g', vc', W8, hrun, ⟨h.bx.kept hbel fun k hk => hblk k (by omega) (hne k (by omega)), ?_, ?_, hbM, ?_⟩, hg⟩
  · refine h.nm.kept (fun k hk hl => hblk k hl (hne k hk.2)) ?_
    have := hg.size
    simp at this
    omega
  · rw [List.take_succ_eq_append_getElem hm]
    exact hA
  · have := hg.size
    simp at this
    omega
theorem JT.done (h : JT names es w W x y z va vc M es.length va2 vc2 vs) (k : Int) (b : Bool) (i : Int) (t : ByteArray) :
    MemL true (From w.heap.size) W [.atom (.int .u8 k), .atom (.bool b), .atom (.int .i64 i), .atom (.string t), strD names, .list 6 es] (jsonC k b i t (.slice va names.length vc) (.slice va2 es.length vc2)) := by
  have h6 := h.ac.done (by omega)
  rw [List.take_of_length_le (Nat.le_refl _)] at h6
  rw [List.map_id] at h6
  have hbM := h.bM
  exact .cons (.atom _) (.cons (.atom _) (.cons (.atom _) (.cons (.atom _) (.cons (h.nm.weak fun b hb _ => by have := hb.1; show w.heap.size ≤ b; omega) (.cons (h6.weak fun b hb _ => by have := hb.1; show w.heap.size ≤ b; omega) (MemL.nil _ _ _))))))
end
/-- what stays while an item is added -/
def KpJ (W0 W : World) (r : Nat) (va : Option Addr) : Prop := W0.heap.size ≤ W.heap.size ∧ ∀ k, k < W0.heap.size → k ≠ r → (∀ g, va = some ⟨g, 0, none⟩ → k ≠ g) → W.heap[k]? = W0.heap[k]?
theorem KpJ.refl (W : World) (r : Nat) (va : Option Addr) : KpJ W W r va := ⟨Nat.le_refl _, fun _ _ _ _ => rfl⟩
theorem KpJ.call {W0 W W' : World} {r : Nat} {va : Option Addr} (h : KpJ W0 W r va) (hb : Below W.heap.size W W') : KpJ W0 W' r va :=
  ⟨Nat.le_trans h.1 hb.size, fun k hk h1 h2 => (hb.block k (by have := h.1; omega)).trans (h.2 k hk h1 h2)⟩
theorem KpJ.grown {W0 W W' : World} {r : Nat} {va : Option Addr} (h : KpJ W0 W r va) (hg : W.grownBy W' (blockOf va)) (hv : ∀ q, blockOf va = some q → va = some ⟨q, 0, none⟩) : KpJ W0 W' r va :=
  ⟨Nat.le_trans h.1 hg.size, fun k hk h1 h2 => (hg.block k (by have := h.1; omega) fun he => h2 k (hv k he.symm) rfl).trans (h.2 k hk h1 h2)⟩
theorem KpJ.set {W0 W : World} {r : Nat} {va : Option Addr} (h : KpJ W0 W r va) (o : Nat) (v : Value) : KpJ W0 (W.setCell ⟨r, o, none⟩ v) r va :=
  ⟨by have := h.1; simpa [World.setCell] using this, fun k hk h1 h2 => (Below.heap_setCell W ⟨r, o, none⟩ v k h1).trans (h.2 k hk h1 h2)⟩
theorem KpJ.cell {W0 W : World} {r : Nat} {va : Option Addr} (h : KpJ W0 W r va) {b o : Nat} {v : Value} (hb : b < W0.heap.size) (h1 : b ≠ r) (h2 : ∀ g, va = some ⟨g, 0, none⟩ → b ≠ g) (hc : W0.cell? ⟨b, o, none⟩ = some v) : W.cell? ⟨b, o, none⟩ = some v := by
  rw [World.cell?_of_block (h.2 b hb h1 h2)]; exact hc
end Go.Proofs.YtinijohmdljieaaGreatDoor
