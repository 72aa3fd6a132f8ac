/- docketref24.Twin at a first state: what holds under way. docketref24.Twin at a first state. -/
import Derived.Test.YtinijohmdljieaaGreatDoorGb
import Derived.Test.YtinijohmdljieaaGreatDoorGc
namespace Go.Proofs.YtinijohmdljieaaGreatDoor
open Go.RowKit

/-- the three boxes: the state that came, the result, the state under way -/
structure St3 (w W : World) (x y z : List Value) : Prop where
  p : Own W w.heap.size 35 14 (some ⟨w.heap.size, 0, none⟩) 1 1 x
  q : Own W w.heap.size 35 14 (some ⟨w.heap.size + 1, 0, none⟩) 1 1 y
  r : Own W w.heap.size 35 14 (some ⟨w.heap.size + 2, 0, none⟩) 1 1 z
  below : Below w.heap.size w W
section
variable {w W W' : World} {x y z : List Value}
theorem St3.lt (h : St3 w W x y z) : w.heap.size + 2 < W.heap.size := (h.r.lt rfl).2
theorem St3.kept (h : St3 w W x y z) (hb : Below w.heap.size w W') (hk : ∀ k, k < w.heap.size + 3 → W'.heap[k]? = W.heap[k]?) : St3 w W' x y z :=
  ⟨h.p.keptB fun g hg => by cases hg; exact hk _ (by omega), h.q.keptB fun g hg => by cases hg; exact hk _ (by omega), h.r.keptB fun g hg => by cases hg; exact hk _ (by omega), hb⟩
theorem St3.call (h : St3 w W x y z) (hb : Below W.heap.size W W') : St3 w W' x y z :=
  h.kept (h.below.trans (hb.mono h.below.size)) fun k hk => hb.block k (by have := h.lt; omega)
theorem St3.setR (h : St3 w W x y z) (j : Nat) (v : Value) : St3 w (W.setCell ⟨w.heap.size + 2, j, none⟩ v) x y (z.set j v) :=
  ⟨h.p.setCell (a := ⟨w.heap.size + 2, j, none⟩) (fun g hg => by cases hg; show _ ≠ w.heap.size + 2; omega) v, h.q.setCell (a := ⟨w.heap.size + 2, j, none⟩) (fun g hg => by cases hg; show _ ≠ w.heap.size + 2; omega) v, h.r.set v, h.below.setCell (p := ⟨w.heap.size + 2, j, none⟩) (by show w.heap.size ≤ w.heap.size + 2; omega) v⟩
theorem St3.setQ (h : St3 w W x y z) (j : Nat) (v : Value) : St3 w (W.setCell ⟨w.heap.size + 1, j, none⟩ v) x (y.set j v) z :=
  ⟨h.p.setCell (a := ⟨w.heap.size + 1, j, none⟩) (fun g hg => by cases hg; show _ ≠ w.heap.size + 1; omega) v, h.q.set v, h.r.setCell (a := ⟨w.heap.size + 1, j, none⟩) (fun g hg => by cases hg; show _ ≠ w.heap.size + 1; omega) v, h.below.setCell (p := ⟨w.heap.size + 1, j, none⟩) (by show w.heap.size ≤ w.heap.size + 1; omega) v⟩
theorem St3.cp (h : St3 w W x y z) (j : Nat) (v : Value) (hj : x[j]? = some v) : W.cell? ⟨w.heap.size, j, none⟩ = some v := by
  obtain ⟨g, he, -, -, hc, -⟩ := h.p.cell (by omega)
  cases he
  exact hc j v hj
theorem St3.cq (h : St3 w W x y z) (j : Nat) (v : Value) (hj : y[j]? = some v) : W.cell? ⟨w.heap.size + 1, j, none⟩ = some v := by
  obtain ⟨g, he, -, -, hc, -⟩ := h.q.cell (by omega)
  cases he
  exact hc j v hj
theorem St3.cr (h : St3 w W x y z) (j : Nat) (v : Value) (hj : z[j]? = some v) : W.cell? ⟨w.heap.size + 2, j, none⟩ = some v := by
  obtain ⟨g, he, -, -, hc, -⟩ := h.r.cell (by omega)
  cases he
  exact hc j v hj
theorem St3.fq (h : St3 w W x y z) (j : Nat) : W.frozen? ⟨w.heap.size + 1, j, none⟩ = false := by
  obtain ⟨g, he, -, -, -, hf⟩ := h.q.cell (by omega)
  cases he
  exact hf j
theorem St3.fr (h : St3 w W x y z) (j : Nat) : W.frozen? ⟨w.heap.size + 2, j, none⟩ = false := by
  obtain ⟨g, he, -, -, -, hf⟩ := h.r.cell (by omega)
  cases he
  exact hf j
end
/-- the user's list, new -/
structure Us3 (n s p : ByteArray) (rs : List ByteArray) (w W : World) (g gc : Nat) (ua : Option Addr) (uc : Nat) : Prop where
  us : Own W (w.heap.size + 3) 25 4 (some ⟨g, 0, none⟩) gc 1 [.string n, .string s, .string p, .slice ua rs.length uc]
  ur : Strs W.heap.size W (.slice ua rs.length uc) rs
  un : ∀ b o, ua = some ⟨b, o, none⟩ → w.heap.size + 3 ≤ b ∧ b < W.heap.size
theorem Us3.kept {n s p : ByteArray} {rs : List ByteArray} {w W W' : World} {g gc : Nat} {ua : Option Addr} {uc : Nat} (h : Us3 n s p rs w W g gc ua uc) (g' : Nat) (hk : ∀ k, k < W.heap.size → k ≠ g' → W'.heap[k]? = W.heap[k]?) (hs : W.heap.size ≤ W'.heap.size) (hg : g ≠ g') (hu : ∀ b o, ua = some ⟨b, o, none⟩ → b ≠ g') : Us3 n s p rs w W' g gc ua uc :=
  ⟨h.us.keptB fun k hk' => by cases hk'; exact hk _ (h.us.lt rfl).2 hg, strs_kept h.ur hu hk hs, fun b o he => ⟨(h.un b o he).1, Nat.lt_of_lt_of_le (h.un b o he).2 hs⟩⟩
/-- a role among the new ones -/
structure RoE (w W : World) (va : Option Addr) (r : Rl) : Prop where
  hs : Strs W.heap.size W r.hv r.holds
  ms : Strs W.heap.size W r.mv r.may
  hb : ∀ b o, r.ha = some ⟨b, o, none⟩ → w.heap.size + 3 ≤ b ∧ b < W.heap.size ∧ ∀ g, va = some ⟨g, 0, none⟩ → b ≠ g
  mb : ∀ b o, r.ma = some ⟨b, o, none⟩ → w.heap.size + 3 ≤ b ∧ b < W.heap.size ∧ ∀ g, va = some ⟨g, 0, none⟩ → b ≠ g
theorem RoE.kept {w W W' : World} {va : Option Addr} {r : Rl} (h : RoE w W va r) (g' : Nat) (hk : ∀ k, k < W.heap.size → k ≠ g' → W'.heap[k]? = W.heap[k]?) (hs : W.heap.size ≤ W'.heap.size) (hu : (∀ b o, r.ha = some ⟨b, o, none⟩ → b ≠ g') ∧ ∀ b o, r.ma = some ⟨b, o, none⟩ → b ≠ g') : RoE w W' va r :=
  ⟨strs_kept h.hs hu.1 hk hs, strs_kept h.ms hu.2 hk hs, fun b o he => ⟨(h.hb b o he).1, Nat.lt_of_lt_of_le (h.hb b o he).2.1 hs, (h.hb b o he).2.2⟩, fun b o he => ⟨(h.mb b o he).1, Nat.lt_of_lt_of_le (h.mb b o he).2.1 hs, (h.mb b o he).2.2⟩⟩
/-- Twin under way -/
structure T3 (n s p : ByteArray) (rs : List ByteArray) (l : List Rl) (w W : World) (x y z : List Value) (g gc : Nat) (ua : Option Addr) (uc k : Nat) (va : Option Addr) (vc : Nat) (acc : List Rl) : Prop where
  st : St3 w W x y z
  us : Us3 n s p rs w W g gc ua uc
  ro : Own W (w.heap.size + 3) 81 3 va vc k (flatR acc)
  len : acc.length = k
  sd : acc.map datR = (l.take k).map datR
  ol : ∀ r ∈ acc, RoE w W va r
  ap : ∀ gr, va = some ⟨gr, 0, none⟩ → g < gr ∧ ∀ b o, ua = some ⟨b, o, none⟩ → b < gr
section
variable {n s p : ByteArray} {rs : List ByteArray} {l : List Rl} {w W W' : World} {x y z : List Value} {g gc : Nat} {ua : Option Addr} {uc k : Nat} {va : Option Addr} {vc : Nat} {acc : List Rl}
/-- the world grows, but for a block among the first -/
theorem T3.kept (h : T3 n s p rs l w W x y z g gc ua uc k va vc acc) {x' y' z' : List Value} (hst : St3 w W' x' y' z') (g' : Nat) (hg' : g' < w.heap.size + 3) (hk : ∀ k, k < W.heap.size → k ≠ g' → W'.heap[k]? = W.heap[k]?) (hs : W.heap.size ≤ W'.heap.size) : T3 n s p rs l w W' x' y' z' g gc ua uc k va vc acc :=
  ⟨hst, h.us.kept g' hk hs (by have := (h.us.us.lt rfl).1; omega) (fun b o he => by have := (h.us.un b o he).1; omega), h.ro.keptB fun k hk' => by
    have := h.ro.lt hk'
    exact hk _ this.2 (by omega), h.len, h.sd, fun r hr => (h.ol r hr).kept g' hk hs ⟨fun b o he => by have := ((h.ol r hr).hb b o he).1; omega, fun b o he => by have := ((h.ol r hr).mb b o he).1; omega⟩, h.ap⟩
theorem T3.setR (h : T3 n s p rs l w W x y z g gc ua uc k va vc acc) (j : Nat) (v : Value) : T3 n s p rs l w (W.setCell ⟨w.heap.size + 2, j, none⟩ v) x y (z.set j v) g gc ua uc k va vc acc :=
  h.kept (h.st.setR j v) (w.heap.size + 2) (by omega) (fun k _ hne => Below.heap_setCell W ⟨w.heap.size + 2, j, none⟩ v k hne) (by simp [World.setCell])
theorem T3.setQ (h : T3 n s p rs l w W x y z g gc ua uc k va vc acc) (j : Nat) (v : Value) : T3 n s p rs l w (W.setCell ⟨w.heap.size + 1, j, none⟩ v) x (y.set j v) z g gc ua uc k va vc acc :=
  h.kept (h.st.setQ j v) (w.heap.size + 1) (by omega) (fun k _ hne => Below.heap_setCell W ⟨w.heap.size + 1, j, none⟩ v k hne) (by simp [World.setCell])
theorem T3.same (h : T3 n s p rs l w W x y z g gc ua uc k va vc acc) (j : Nat) (v : Value) (hj : z.set j v = z) : T3 n s p rs l w (W.setCell ⟨w.heap.size + 2, j, none⟩ v) x y z g gc ua uc k va vc acc := by
  have := h.setR j v
  rwa [hj] at this
theorem T3.call (h : T3 n s p rs l w W x y z g gc ua uc k va vc acc) (hb : Below W.heap.size W W') : T3 n s p rs l w W' x y z g gc ua uc k va vc acc :=
  h.kept (h.st.call hb) 0 (by omega) (fun k hk _ => hb.block k hk) hb.size
/-- a role more -/
theorem T3.app (h : T3 n s p rs l w W x y z g gc ua uc k va vc acc) (hkl : k < l.length) {r' : Rl} (hr : datR r' = datR l[k]) (hE : RoE w W va r') {g' vc' : Nat}
    (ho : Own W' (w.heap.size + 3) 81 3 (some ⟨g', 0, none⟩) vc' (k + 1) (flatR acc ++ cellsR r')) (hg : W.grownBy W' (blockOf va)) (hat : va = some ⟨g', 0, none⟩ ∨ g' = W.heap.size) :
    T3 n s p rs l w W' x y z g gc ua uc (k + 1) (some ⟨g', 0, none⟩) vc' (acc ++ [r']) := by
  have hva : ∀ q, blockOf va = some q → va = some ⟨q, 0, none⟩ := by
    intro q hq
    rcases h.ro.block with ⟨rfl, _⟩ | ⟨gr, rfl, _⟩
    · cases hq
    · injection hq with hq; rw [← hq]
  -- the block that may turn
  obtain ⟨gt, hgt, hgt2⟩ : ∃ gt, (∀ q, va = some ⟨q, 0, none⟩ → q = gt) ∧ (va = none → gt = W.heap.size) := by
    rcases h.ro.block with ⟨rfl, _⟩ | ⟨gr, rfl, _⟩
    · exact ⟨_, (fun q hq => by cases hq), fun _ => rfl⟩
    · exact ⟨gr, (fun q hq => by cases hq; rfl), fun hq => by cases hq⟩
  have hkk : ∀ q, q < W.heap.size → q ≠ gt → W'.heap[q]? = W.heap[q]? := by
    intro q hq hne
    refine hg.block q hq fun he => hne ?_
    exact hgt q (hva q he.symm)
  have hbase : ∀ q, va = some ⟨q, 0, none⟩ → w.heap.size + 3 ≤ q ∧ q < W.heap.size := fun q hq => h.ro.lt hq
  have hcase : va = none ∨ va = some ⟨gt, 0, none⟩ := by
    rcases h.ro.block with ⟨rfl, _⟩ | ⟨gr, rfl, _⟩
    · exact .inl rfl
    · right; rw [hgt gr rfl]
  have hlt3 := h.st.lt
  have hst : St3 w W' x y z := by
    refine h.st.kept (h.st.below.grown hg h.st.below.size fun q hq => by have := (hbase q (hva q hq)).1; omega) fun q hq => hkk q (by omega) ?_
    rcases hcase with hv | hv
    · have := hgt2 hv; omega
    · have := (hbase gt hv).1; omega
  have hus : Us3 n s p rs w W' g gc ua uc := by
    refine h.us.kept gt hkk hg.size ?_ ?_
    · rcases hcase with hv | hv
      · have := hgt2 hv; have := (h.us.us.lt rfl).2; omega
      · have := (h.ap gt hv).1; omega
    · intro b o he
      rcases hcase with hv | hv
      · have := hgt2 hv; have := (h.us.un b o he).2; omega
      · have := (h.ap gt hv).2 b o he; omega
  have hne : ∀ b, b < W.heap.size → (∀ q, va = some ⟨q, 0, none⟩ → b ≠ q) → b ≠ gt ∧ b ≠ g' := by
    intro b hb hq
    constructor
    · rcases hcase with hv | hv
      · have := hgt2 hv; omega
      · exact hq gt hv
    · rcases hat with hv | hv
      · exact hq g' hv
      · omega
  have hE' : ∀ r, RoE w W va r → RoE w W' (some ⟨g', 0, none⟩) r := by
    intro r hr
    have h1 := hr.kept gt hkk hg.size ⟨fun b o he => (hne b (hr.hb b o he).2.1 (hr.hb b o he).2.2).1, fun b o he => (hne b (hr.mb b o he).2.1 (hr.mb b o he).2.2).1⟩
    exact ⟨h1.hs, h1.ms, fun b o he => ⟨(h1.hb b o he).1, (h1.hb b o he).2.1, fun q hq => by cases hq; exact (hne b (hr.hb b o he).2.1 (hr.hb b o he).2.2).2⟩, fun b o he => ⟨(h1.mb b o he).1, (h1.mb b o he).2.1, fun q hq => by cases hq; exact (hne b (hr.mb b o he).2.1 (hr.mb b o he).2.2).2⟩⟩
  refine ⟨hst, hus, ?_, by simp [h.len], ?_, fun r hr => ?_, fun gr hgr => ?_⟩
  · have : flatR (acc ++ [r']) = flatR acc ++ cellsR r' := by simp [flatR]
    rw [this]; exact ho
  · rw [List.map_append, h.sd, List.take_succ_eq_append_getElem hkl, List.map_append]
    simp [hr]
  · rcases List.mem_append.1 hr with hr | hr
    · exact hE' r (h.ol r hr)
    · rw [List.mem_singleton] at hr
      rw [hr]; exact hE' r' hE
  · cases hgr
    rcases hat with hv | hv
    · exact h.ap g' hv
    · exact ⟨by have := (h.us.us.lt rfl).2; omega, fun b o he => by have := (h.us.un b o he).2; omega⟩
/-- at the end -/
theorem T3.done (h : T3 n s p rs l w W x y z g gc ua uc l.length va vc acc) (sec : ByteArray) : TwinEnd sec n s p rs l w (.returned (stV sec (.slice (some ⟨g, 0, none⟩) 1 gc) (.slice va l.length vc))) W := by
  have hsd : SameD l acc := by
    rw [sameD_map, h.sd, List.take_of_length_le (Nat.le_refl _)]
  refine ⟨g, gc, ua, uc, va, vc, acc, rfl, h.st.below, h.us.us.base_le (by omega), h.us.ur, h.ro.base_le (by omega), hsd, fun gr hgr => ⟨(h.ap gr hgr).1, fun _ => (h.ap gr hgr).2⟩, fun q hq j hj => ?_, fun b o he => by have := (h.us.un b o he).1; omega⟩
  have hE := h.ol acc[j] (List.getElem_mem hj)
  exact ⟨hE.hs, hE.ms, fun b o he => ⟨by have := (hE.hb b o he).1; omega, (hE.hb b o he).2.2 q hq⟩, fun b o he => ⟨by have := (hE.mb b o he).1; omega, (hE.mb b o he).2.2 q hq⟩⟩
end
theorem run_append_nil {P : Program} {T E : TypeId} {k : Nat} (h1 : P.underlying T = some (.slice E)) (h2 : ∀ w, (Go.sizeOf E).run P w = .ok k w) (ty : TypeId) (w : World) : (Builtin.append_ #[T, T] ty #[.slice none 0 0, .slice none 0 0]).run P w = .ok (.slice none 0 0) w := by
  have h3 := h2 w
  simp [Builtin.append_, run_underlying h1, h3, Result.andThen, Builtin.lenOf, Builtin.firstCells]
end Go.Proofs.YtinijohmdljieaaGreatDoor

namespace Go.Proofs.YtinijohmdljieaaGreatDoor
open Go.RowKit

theorem St3.start (w : World) (sec : ByteArray) (us rs us3 : Value) : St3 w (((w.alloc (stO sec us rs)).alloc (stO ⟨#[]⟩ (.slice none 0 0) (.slice none 0 0))).alloc (stO sec us3 rs)) (stC sec us rs) (stC ⟨#[]⟩ (.slice none 0 0) (.slice none 0 0)) (stC sec us3 rs) := by
  have hz : (w.alloc (stO sec us rs)).heap.size = w.heap.size + 1 := by simp
  have hz2 : ((w.alloc (stO sec us rs)).alloc (stO ⟨#[]⟩ (.slice none 0 0) (.slice none 0 0))).heap.size = w.heap.size + 2 := by simp
  have h2 := ownBox (w.alloc (stO sec us rs)) #[.int .i64 0, .string ⟨#[]⟩, .slice none 0 0, .slice none 0 0, .slice none 0 0, .slice none 0 0, .slice none 0 0, .slice none 0 0, .slice none 0 0, .slice none 0 0, .int .i64 0, .int .i64 0, .int .i64 0, .int .i64 0] 35 14 w.heap.size (by omega) rfl
  have h3 := ownBox ((w.alloc (stO sec us rs)).alloc (stO ⟨#[]⟩ (.slice none 0 0) (.slice none 0 0))) #[.int .i64 0, .string sec, us3, rs, .slice none 0 0, .slice none 0 0, .slice none 0 0, .slice none 0 0, .slice none 0 0, .slice none 0 0, .int .i64 0, .int .i64 0, .int .i64 0, .int .i64 0] 35 14 w.heap.size (by omega) rfl
  rw [hz] at h2
  rw [hz2] at h3
  exact ⟨((ownBox w _ _ 14 _ (Nat.le_refl _) rfl).alloc _).alloc _, h2.alloc _, h3, (((Below.refl _ _).alloc (Nat.le_refl _) _).alloc (by omega) _).alloc (by omega) _⟩
theorem Own.rng {w : World} {base : Nat} {E : TypeId} {k vc n : Nat} {va : Option Addr} {cells : List Value} (h : Own w base E k va vc n cells) {b o : Nat} (he : va = some ⟨b, o, none⟩) : base ≤ b ∧ b < w.heap.size := by
  rcases h.block with ⟨h1, _⟩ | ⟨g, h1, h2, h3, _⟩
  · rw [h1] at he; cases he
  · rw [h1] at he; cases he; exact ⟨h2, h3⟩
theorem Own.cellAt {w : World} {base : Nat} {E : TypeId} {k g vc n : Nat} {cells : List Value} (h : Own w base E k (some ⟨g, 0, none⟩) vc n cells) (j : Nat) {v : Value} (hj : cells[j]? = some v) : w.cell? ⟨g, j, none⟩ = some v := by
  have hpos : 0 < n * k := by
    rw [← h.length]
    rcases Nat.lt_or_ge j cells.length with h | h
    · omega
    · rw [List.getElem?_eq_none h] at hj; cases hj
  obtain ⟨g', he, -, -, hc, -⟩ := h.cell hpos
  cases he
  exact hc j v hj
theorem Own.frozenAt {w : World} {base : Nat} {E : TypeId} {k g vc n : Nat} {cells : List Value} (h : Own w base E k (some ⟨g, 0, none⟩) vc n cells) (j : Nat) : w.frozen? ⟨g, j, none⟩ = false := by
  rcases h.block with ⟨h1, _⟩ | ⟨g', he, -, -, cur, hcur, -⟩
  · cases h1
  · cases he
    simp [World.frozen?, hcur]
theorem T3.start {n s p : ByteArray} {rs : List ByteArray} {l : List Rl} {w W : World} {x y z : List Value} {g gc : Nat} {ua : Option Addr} {uc : Nat} (h : St3 w W x y z) (hu : Us3 n s p rs w W g gc ua uc) (v : Value) : T3 n s p rs l w (W.setCell ⟨w.heap.size + 2, 3, none⟩ v) x y (z.set 3 v) g gc ua uc 0 none 0 [] :=
  ⟨h.setR 3 v, hu.kept (w.heap.size + 2) (fun k _ hne => Below.heap_setCell W ⟨w.heap.size + 2, 3, none⟩ v k hne) (by simp [World.setCell]) (by have := (hu.us.lt rfl).1; omega) (fun b o he => by have := (hu.un b o he).1; omega), Own.nil _ _ _ _, rfl, rfl, (fun r hr => by cases hr), fun gr hgr => by cases hgr⟩
theorem T3.allQ {n s p : ByteArray} {rs : List ByteArray} {l : List Rl} {w W : World} {x z : List Value} {sec : ByteArray} {us ro : Value} {g gc : Nat} {ua : Option Addr} {uc k : Nat} {va : Option Addr} {vc : Nat} {acc : List Rl} (h : T3 n s p rs l w W x (stC sec us ro) z g gc ua uc k va vc acc) (v0 v1 v2 v3 v4 v5 v6 v7 v8 v9 v10 v11 v12 v13 : Value) :
    T3 n s p rs l w ((((((((((((((W.setCell ⟨w.heap.size + 1, 0, none⟩ v0).setCell ⟨w.heap.size + 1, 1, none⟩ v1).setCell ⟨w.heap.size + 1, 2, none⟩ v2).setCell ⟨w.heap.size + 1, 3, none⟩ v3).setCell ⟨w.heap.size + 1, 4, none⟩ v4).setCell ⟨w.heap.size + 1, 5, none⟩ v5).setCell ⟨w.heap.size + 1, 6, none⟩ v6).setCell ⟨w.heap.size + 1, 7, none⟩ v7).setCell ⟨w.heap.size + 1, 8, none⟩ v8).setCell ⟨w.heap.size + 1, 9, none⟩ v9).setCell ⟨w.heap.size + 1, 10, none⟩ v10).setCell ⟨w.heap.size + 1, 11, none⟩ v11).setCell ⟨w.heap.size + 1, 12, none⟩ v12).setCell ⟨w.heap.size + 1, 13, none⟩ v13) x [v0, v1, v2, v3, v4, v5, v6, v7, v8, v9, v10, v11, v12, v13] z g gc ua uc k va vc acc := ((((((((((((((h.setQ 0 v0).setQ 1 v1).setQ 2 v2).setQ 3 v3).setQ 4 v4).setQ 5 v5).setQ 6 v6).setQ 7 v7).setQ 8 v8).setQ 9 v9).setQ 10 v10).setQ 11 v11).setQ 12 v12).setQ 13 v13)
theorem ret_twin24 {w W : World} {a : Act} {x z : List Value} {sec : ByteArray} {us ro : Value} {R : Ending → World → Prop} (h : St3 w W x (stC sec us ro) z) (hp : a.tmps.getD 2 undef = .pointer (some ⟨w.heap.size + 1, 0, none⟩)) (hd : a.defers = [])
    (hR : R (.returned (stV sec us ro)) W) : bodyPost Tryz.prog Tryz.f9 R .ret a W := by
  refine bodyPost_ret ?_ hd hR
  have hp' : a.tmps[2]?.getD undef = .pointer (some ⟨w.heap.size + 1, 0, none⟩) := by simpa using hp
  simp [results, Tryz.results9, hp', go_sem, h.cq 0 _ rfl, h.cq 1 _ rfl, h.cq 2 _ rfl, h.cq 3 _ rfl, h.cq 4 _ rfl, h.cq 5 _ rfl, h.cq 6 _ rfl, h.cq 7 _ rfl, h.cq 8 _ rfl, h.cq 9 _ rfl, h.cq 10 _ rfl, h.cq 11 _ rfl, h.cq 12 _ rfl, h.cq 13 _ rfl]
/-- a role more: from the box to the list -/
theorem T3.round {n s p : ByteArray} {rs : List ByteArray} {l : List Rl} {w wr w3 w5 w8 : World} {x y z : List Value} {g gc : Nat} {ua : Option Addr} {uc k : Nat} {va : Option Addr} {vc : Nat} {acc : List Rl} (h : T3 n s p rs l w wr x y z g gc ua uc k va vc acc) (hkl : k < l.length)
    {nm : ByteArray} {ha ma va1 va2 : Option Addr} {hc mc vc1 vc2 B g' vc' : Nat} {hs ms : List ByteArray} (hr : l[k] = ⟨nm, ha, hc, ma, mc, hs, ms⟩) (hB : B = wr.heap.size) (h3 : B + 1 ≤ w3.heap.size)
    (hO1 : Own w3 (B + 1) 9 1 va1 vc1 hs.length (hs.map Value.string)) (hb3 : Below wr.heap.size wr w3) (v1 : Value)
    (hO2 : Own w5 (B + 1) 9 1 va2 vc2 ms.length (ms.map Value.string)) (hb5 : Below w3.heap.size (w3.setCell ⟨B, 1, none⟩ v1) w5) (v2 : Value) (o : Obj)
    (ho : Own w8 (w.heap.size + 3) 81 3 (some ⟨g', 0, none⟩) vc' (k + 1) (flatR acc ++ cellsR ⟨nm, va1, vc1, va2, vc2, hs, ms⟩)) (hg : ((w5.setCell ⟨B, 2, none⟩ v2).alloc o).grownBy w8 (blockOf va)) (hat : va = some ⟨g', 0, none⟩ ∨ g' = ((w5.setCell ⟨B, 2, none⟩ v2).alloc o).heap.size) :
    T3 n s p rs l w w8 x y z g gc ua uc (k + 1) (some ⟨g', 0, none⟩) vc' (acc ++ [⟨nm, va1, vc1, va2, vc2, hs, ms⟩]) := by
  have hlt := h.st.lt
  have h35 : w3.heap.size ≤ w5.heap.size := by have := hb5.size; simpa [World.setCell] using this
  have hb5' : Below wr.heap.size wr w5 := (hb3.setCell (p := ⟨B, 1, none⟩) (by show _ ≤ B; omega) v1).trans (hb5.mono (by omega))
  have hb7 : Below wr.heap.size wr ((w5.setCell ⟨B, 2, none⟩ v2).alloc o) := (hb5'.setCell (p := ⟨B, 2, none⟩) (by show _ ≤ B; omega) v2).alloc (by simp [World.setCell]; omega) o
  have hO1' : Own ((w5.setCell ⟨B, 2, none⟩ v2).alloc o) (B + 1) 9 1 va1 vc1 hs.length (hs.map Value.string) :=
    (((hO1.setCell (a := ⟨B, 1, none⟩) (fun q hq => by have := (hO1.lt hq).1; show q ≠ B; omega) v1).keptB (w' := w5) fun q hq => hb5.block q (hO1.lt hq).2).setCell (a := ⟨B, 2, none⟩) (fun q hq => by have := (hO1.lt hq).1; show q ≠ B; omega) v2).alloc o
  have hO2' : Own ((w5.setCell ⟨B, 2, none⟩ v2).alloc o) (B + 1) 9 1 va2 vc2 ms.length (ms.map Value.string) :=
    (hO2.setCell (a := ⟨B, 2, none⟩) (fun q hq => by have := (hO2.lt hq).1; show q ≠ B; omega) v2).alloc o
  refine (h.call hb7).app hkl (by rw [hr]; rfl) ⟨hO1'.strsOf, hO2'.strsOf, fun b o he => ?_, fun b o he => ?_⟩ ho hg hat
  · have h1 := hO1'.rng he
    exact ⟨by omega, h1.2, fun q hq => by have := (h.ro.lt hq).2; omega⟩
  · have h1 := hO2'.rng he
    exact ⟨by omega, h1.2, fun q hq => by have := (h.ro.lt hq).2; omega⟩
/-- the user's list made: from the box to the list -/
theorem us3_of {n s p : ByteArray} {rs : List ByteArray} {w wr w3 w7 : World} {x y z : List Value} {va : Option Addr} {vc g gc B : Nat} (hS : St3 w wr x y z) (hB : B = wr.heap.size) (h3 : B + 1 ≤ w3.heap.size)
    (hO : Own w3 (B + 1) 9 1 va vc rs.length (rs.map Value.string)) (hb3 : Below wr.heap.size wr w3) (o : Obj) (v3 : Value)
    (hU : Own w7 (w.heap.size + 3) 25 4 (some ⟨g, 0, none⟩) gc 1 [.string n, .string s, .string p, .slice va rs.length vc]) (hg : ((w3.setCell ⟨B, 3, none⟩ v3).alloc o).grownBy w7 none) (v : Value) :
    St3 w (w7.setCell ⟨w.heap.size + 2, 2, none⟩ v) x y (z.set 2 v) ∧ Us3 n s p rs w (w7.setCell ⟨w.heap.size + 2, 2, none⟩ v) g gc va vc := by
  have hlt := hS.lt
  have hbl : Below wr.heap.size wr w7 := ((hb3.setCell (p := ⟨B, 3, none⟩) (by show _ ≤ B; omega) v3).alloc (by simp [World.setCell]; omega) o).grown hg (by simp [World.setCell]; omega) (fun k hk => by cases hk)
  have hO8 : Own (w7.setCell ⟨w.heap.size + 2, 2, none⟩ v) (B + 1) 9 1 va vc rs.length (rs.map Value.string) :=
    (((hO.setCell (a := ⟨B, 3, none⟩) (fun q hq => by have := (hO.lt hq).1; show q ≠ B; omega) v3).alloc o).grown hg (fun q _ h => by cases h)).setCell (a := ⟨w.heap.size + 2, 2, none⟩) (fun q hq => by have := (hO.lt hq).1; show q ≠ w.heap.size + 2; omega) v
  refine ⟨(hS.call hbl).setR 2 v, hU.far (by show w.heap.size + 2 < _; omega) v, hO8.strsOf, fun b o he => ?_⟩
  have := hO8.rng he
  exact ⟨by omega, this.2⟩
set_option maxHeartbeats 8000000 in
set_option maxRecDepth 100000 in
theorem twin24_walk (sec n s p : ByteArray) (b : Nat) (ua : Option Addr) (uc : Nat) (rs : List ByteArray) (v : Value) (l : List Rl) (w : World)
    (hu : Arr w b 25 [.string n, .string s, .string p, .slice ua rs.length uc]) (hs : Strs w.heap.size w (.slice ua rs.length uc) rs) (hrl : rs.length ≤ 1000000)
    (hl : l.length ≤ 1000) (hn : ∀ r ∈ l, r.holds.length ≤ 1000000 ∧ r.may.length ≤ 1000000) (h : Rls w.heap.size w v l) :
    Calls Tryz.prog 9 #[stV sec (.slice (some ⟨b, 0, none⟩) 1 1) v] w (TwinEnd sec n s p rs l w) := by
  obtain ⟨a, c, b', o, rfl, -, hC⟩ := h.cells
  have HS0 := Lib.hid (St3.start w sec (.slice (some ⟨b, 0, none⟩) 1 1) (.slice a l.length c) (.slice none 0 0))
  have HU := Lib.hid (fun W (hb : Below w.heap.size w W) => (⟨hu.below hb hu.lt, (hs.below hb).mono hb.size⟩ : Arr W b 25 [.string n, .string s, .string p, .slice ua rs.length uc] ∧ Strs W.heap.size W (.slice ua rs.length uc) rs))
  have HC := Lib.hid hC
  have HN := Lib.hid hn
  clear hu hs h hC hn
  unfold stV
  go_enter Tryz.func9, Tryz.ntmps9
  go_upto_region 4 with fail
  generalize (((w.alloc (stO sec (.slice (some ⟨b, 0, none⟩) 1 1) (.slice a l.length c))).alloc (stO ⟨#[]⟩ (.slice none 0 0) (.slice none 0 0))).alloc (stO sec (.slice none 0 0) (.slice a l.length c))) = W2 at *
  go_loopw [4] (fun i wr => (i = .int .i64 0 ∧ wr = W2) ∨ (i = .int .i64 1 ∧ ∃ (g gc : Nat) (va : Option Addr) (vc : Nat), Hid (St3 w wr (stC sec (.slice (some ⟨b, 0, none⟩) 1 1) (.slice a l.length c)) (stC ⟨#[]⟩ (.slice none 0 0) (.slice none 0 0)) (stC sec (.slice (some ⟨g, 0, none⟩) 1 gc) (.slice a l.length c)) ∧ Us3 n s p rs w wr g gc va vc))) (fun i _ => 1 - (intOf i).toNat)
  case atStart => exact .inl ⟨rfl, rfl⟩
  case round =>
    rcases hrel with ⟨rfl, rfl⟩ | ⟨rfl, g, gc, va, vc, HX⟩
    · have k2 := HS0.out.cp 2 _ rfl
      obtain ⟨hU1, hU2⟩ := HU.out _ HS0.out.below
      have c0 := hU1.cell (j := 0) (by simp)
      have c1 := hU1.cell (j := 1) (by simp)
      have c2 := hU1.cell (j := 2) (by simp)
      have c3 := hU1.cell (j := 3) (by simp)
      have HV0 := Lib.hid ((Below.refl wr.heap.size wr).alloc (Nat.le_refl _) (.cells #[.string n, .string s, .string p, .slice ua rs.length uc] 25))
      have HBx := Lib.hid (ownBox wr #[.string n, .string s, .string p, .slice ua rs.length uc] 25 4 wr.heap.size (Nat.le_refl _) rfl)
      have HWD := Lib.hid (refWords (.slice ua rs.length uc) rs (wr.alloc (.cells #[.string n, .string s, .string p, .slice ua rs.length uc] 25)) hrl ((hU2.below HV0.out).mono HV0.out.size))
      have HZ0 : Hid ((wr.alloc (.cells #[.string n, .string s, .string p, .slice ua rs.length uc] 25)).heap.size = wr.heap.size + 1) := by show _ = _; simp
      clear hU1 hU2 HU HC HN
      go_wp2_with fail
      refine HWD.out.mono ?_
      rintro e w3 ⟨va, vc, rfl, hO, hb⟩
      have HBx3 := Lib.hid (HBx.out.below hb (Nat.le_refl _))
      have hz3 : wr.heap.size + 1 ≤ w3.heap.size := by have := hb.size; rw [HZ0.out] at this; exact this
      rw [HZ0.out] at hO
      have HO := Lib.hid hO
      have HB3 := Lib.hid (HV0.out.trans (hb.mono HV0.out.size))
      have b0 : w3.cell? ⟨wr.heap.size, 0, none⟩ = some (.string n) := HBx3.out.cellAt 0 rfl
      have b1 : w3.cell? ⟨wr.heap.size, 1, none⟩ = some (.string s) := HBx3.out.cellAt 1 rfl
      have b2 : w3.cell? ⟨wr.heap.size, 2, none⟩ = some (.string p) := HBx3.out.cellAt 2 rfl
      have b3 : w3.cell? ⟨wr.heap.size, 3, none⟩ = some (.slice ua rs.length uc) := HBx3.out.cellAt 3 rfl
      have bf : w3.frozen? ⟨wr.heap.size, 3, none⟩ = false := HBx3.out.frozenAt 3
      have u2 : w3.cell? ⟨w.heap.size + 2, 2, none⟩ = some (.slice none 0 0) := (HB3.out.cell (p := ⟨w.heap.size + 2, 2, none⟩) HS0.out.lt).trans (HS0.out.cr 2 _ rfl)
      have uf : w3.frozen? ⟨w.heap.size + 2, 2, none⟩ = false := (HB3.out.frozen (p := ⟨w.heap.size + 2, 2, none⟩) HS0.out.lt).trans (HS0.out.fr 2)
      have hne := HS0.out.lt
      clear hO hb HV0 HBx HWD HZ0 c0 c1 c2 c3 k2 HBx3
      have HAP := Lib.hid (Own.appAt elemUser 27 (Own.nil ((w3.setCell ⟨wr.heap.size, 3, none⟩ (.slice va rs.length vc)).alloc (.cells #[.string n, .string s, .string p, .slice va rs.length vc] 25)) (w.heap.size + 3) _ _) (by simp [World.setCell]; omega) w3.heap.size 0 1 [.string n, .string s, .string p, .slice va rs.length vc] rfl (fun j u hj => by
        have hlt : j < 4 := by
          rcases Nat.lt_or_ge j 4 with h | h
          · exact h
          · rw [List.getElem?_eq_none (by simpa using h)] at hj; cases hj
        have e : (w3.setCell ⟨wr.heap.size, 3, none⟩ (.slice va rs.length vc)).heap.size = w3.heap.size := by simp [World.setCell]
        have := (ownBox (w3.setCell ⟨wr.heap.size, 3, none⟩ (.slice va rs.length vc)) #[.string n, .string s, .string p, .slice va rs.length vc] 25 4 w3.heap.size (by rw [e]; exact Nat.le_refl _) rfl).cellAt j (v := u) (by simpa using hj)
        rw [e] at this
        rw [Nat.zero_add]
        exact this) (fun u hu => by
        simp only [List.mem_cons, List.not_mem_nil, or_false] at hu
        rcases hu with rfl | rfl | rfl | rfl <;> rfl) (by unfold maxLen; omega) (by omega))
      obtain ⟨g', vc', w7, hap, hO7, hg7, -⟩ := HAP.out
      rw [Nat.zero_add, List.nil_append] at hO7
      rw [Nat.zero_add] at hap
      have HAP1 := Lib.hid hap
      have HX := Lib.hid (us3_of HS0.out rfl hz3 HO.out HB3.out _ _ hO7 hg7 (.slice (some ⟨g', 0, none⟩) 1 vc'))
      have uf7 : w7.frozen? ⟨w.heap.size + 2, 2, none⟩ = false := by
        have := (((HB3.out.setCell (p := ⟨wr.heap.size, 3, none⟩) (Nat.le_refl _) (.slice va rs.length vc)).alloc (by simp [World.setCell]; omega) (.cells #[.string n, .string s, .string p, .slice va rs.length vc] 25)).grown hg7 (by simp [World.setCell]; omega) (fun k hk => by cases hk)).frozen (p := ⟨w.heap.size + 2, 2, none⟩) HS0.out.lt
        exact this.trans (HS0.out.fr 2)
      have uc7 : w7.cell? ⟨w.heap.size + 2, 2, none⟩ = some (.slice none 0 0) := by
        have := (((HB3.out.setCell (p := ⟨wr.heap.size, 3, none⟩) (Nat.le_refl _) (.slice va rs.length vc)).alloc (by simp [World.setCell]; omega) (.cells #[.string n, .string s, .string p, .slice va rs.length vc] 25)).grown hg7 (by simp [World.setCell]; omega) (fun k hk => by cases hk)).cell (p := ⟨w.heap.size + 2, 2, none⟩) HS0.out.lt
        exact this.trans (HS0.out.cr 2 _ rfl)
      clear HAP hap hO7 hg7 HB3 HO HS0
      go_wp2_with (at_builtin; refine wpList_append_run rfl _ _ _ rfl rfl rfl HAP1.out ?_)
      go_roundw
      case rel => exact .inr ⟨rfl, _, _, _, _, HX⟩
      case measure => simp [intOf]
    · clear HU HS0
      have k2 := HX.out.1.cp 2 _ rfl
      have c3 := HX.out.1.cr 3 _ rfl
      have f3 := HX.out.1.fr 3
      go_wp2_with fail
      go_loopw [6] (fun i wx => ∃ (k : Nat) (va2 : Option Addr) (vc2 : Nat) (acc : List Rl), k ≤ l.length ∧ i = .int .i64 k ∧ Hid (T3 n s p rs l w wx (stC sec (.slice (some ⟨b, 0, none⟩) 1 1) (.slice a l.length c)) (stC ⟨#[]⟩ (.slice none 0 0) (.slice none 0 0)) (stC sec (.slice (some ⟨g, 0, none⟩) 1 gc) (.slice va2 k vc2)) g gc va vc k va2 vc2 acc)) (fun i _ => l.length - (intOf i).toNat)
      case atStart => exact ⟨0, none, 0, [], Nat.zero_le _, rfl, T3.start HX.out.1 HX.out.2 _⟩
      case round =>
        clear HX k2 c3 f3
        obtain ⟨k, va2, vc2, acc, hk, rfl, HT⟩ := hrel
        have k3 := HT.out.st.cp 3 _ rfl
        by_cases hlt : k < l.length
        · obtain ⟨rfl, hbl⟩ := HC.out.at0 (by omega)
          have e0 := cellBelow2 HT.out.st.below (HC.out.c0 k hlt)
          have e1 := cellBelow2 HT.out.st.below (HC.out.c1 k hlt)
          have e2 := cellBelow2 HT.out.st.below (HC.out.c2 k hlt)
          have e3 := ((HC.out.hs k hlt).below HT.out.st.below).mono HT.out.st.below.size
          have e4 := ((HC.out.ms k hlt).below HT.out.st.below).mono HT.out.st.below.size
          obtain ⟨q1, q2⟩ := HN.out _ (List.getElem_mem hlt)
          obtain ⟨r, hr⟩ : ∃ r, l[k] = r := ⟨_, rfl⟩
          rw [hr] at e0 e1 e2 e3 e4 q1 q2
          obtain ⟨nm, ha, hc, ma, mc, hs, ms⟩ := r
          have HR := Lib.hid hr
          simp only [Rl.hv, Rl.mv] at e0 e1 e2 e3 e4 q1 q2
          have HV0 := Lib.hid ((Below.refl wr.heap.size wr).alloc (Nat.le_refl _) (.cells #[.string nm, .slice ha hs.length hc, .slice ma ms.length mc] 81))
          have HBx := Lib.hid (ownBox wr #[.string nm, .slice ha hs.length hc, .slice ma ms.length mc] 81 3 wr.heap.size (Nat.le_refl _) rfl)
          have HW1 := Lib.hid (refWords (.slice ha hs.length hc) hs (wr.alloc (.cells #[.string nm, .slice ha hs.length hc, .slice ma ms.length mc] 81)) q1 ((Strs.below e3 HV0.out).mono HV0.out.size))
          have HW2 := Lib.hid (fun W (hb : Below wr.heap.size wr W) => refWords (.slice ma ms.length mc) ms W q2 ((Strs.below e4 hb).mono hb.size))
          have HZ0 : Hid ((wr.alloc (.cells #[.string nm, .slice ha hs.length hc, .slice ma ms.length mc] 81)).heap.size = wr.heap.size + 1) := by show _ = _; simp
          have i1 : (0 : Int) ≤ (k : Int) := by omega
          have i2 : (k : Int) < (l.length : Int) := by omega
          clear hr e3 e4 q1 q2 HN HC hbl
          go_wp2_with fail
          refine HW1.out.mono ?_
          rintro e w3 ⟨va3, vc3, rfl, hO, hb⟩
          have HBx3 := Lib.hid (HBx.out.below hb (Nat.le_refl _))
          have hz3 : wr.heap.size + 1 ≤ w3.heap.size := by have := hb.size; rw [HZ0.out] at this; exact this
          rw [HZ0.out] at hO
          have HO1 := Lib.hid hO
          have HB3 := Lib.hid (HV0.out.trans (hb.mono HV0.out.size))
          have b1 : w3.cell? ⟨wr.heap.size, 1, none⟩ = some (.slice ha hs.length hc) := HBx3.out.cellAt 1 rfl
          have b2 : w3.cell? ⟨wr.heap.size, 2, none⟩ = some (.slice ma ms.length mc) := HBx3.out.cellAt 2 rfl
          have bf : w3.frozen? ⟨wr.heap.size, 1, none⟩ = false := HBx3.out.frozenAt 1
          clear hO hb HV0 HBx HW1 HZ0 e0 e1 e2 k3 i1 i2
          go_wp2_with fail
          have HBx4 := Lib.hid (HBx3.out.set (j := 1) (.slice va3 hs.length vc3))
          have HB4 := Lib.hid (HB3.out.setCell (p := ⟨wr.heap.size, 1, none⟩) (Nat.le_refl _) (.slice va3 hs.length vc3))
          refine (HW2.out _ HB4.out).mono ?_
          rintro e w5 ⟨va4, vc4, rfl, hO, hb⟩
          have hz5 : w3.heap.size ≤ w5.heap.size := by have := hb.size; simpa [World.setCell] using this
          have hz1 : (w3.setCell ⟨wr.heap.size, 1, none⟩ (.slice va3 hs.length vc3)).heap.size = w3.heap.size := by simp [World.setCell]
          have HBx5 := Lib.hid (HBx4.out.below hb (Nat.le_refl _))
          rw [hz1] at hO hb
          have HO2 := Lib.hid (hO.base_le hz3)
          have HB5 := Lib.hid hb
          have HB5' := Lib.hid (HB4.out.trans (hb.mono (by omega)))
          have b0 : w5.cell? ⟨wr.heap.size, 0, none⟩ = some (.string nm) := HBx5.out.cellAt 0 rfl
          have b1' : w5.cell? ⟨wr.heap.size, 1, none⟩ = some (.slice va3 hs.length vc3) := HBx5.out.cellAt 1 rfl
          have b2' : w5.cell? ⟨wr.heap.size, 2, none⟩ = some (.slice ma ms.length mc) := HBx5.out.cellAt 2 rfl
          have bf' : w5.frozen? ⟨wr.heap.size, 2, none⟩ = false := HBx5.out.frozenAt 2
          have HT5 := Lib.hid (HT.out.call HB5'.out)
          have u3 := HT5.out.st.cr 3 _ rfl
          have hne := HT.out.st.lt
          have HB7 : Hid (Below wr.heap.size wr ((w5.setCell ⟨wr.heap.size, 2, none⟩ (.slice va4 ms.length vc4)).alloc (.cells #[.string nm, .slice va3 hs.length vc3, .slice va4 ms.length vc4] 81))) := (HB5'.out.setCell (p := ⟨wr.heap.size, 2, none⟩) (Nat.le_refl _) (.slice va4 ms.length vc4)).alloc (by simp [World.setCell]; omega) _
          have HT7 := Lib.hid (HT.out.call HB7.out)
          have hAP := Own.appAt elemRole 22 HT7.out.ro (by have := HT7.out.st.lt; omega) w5.heap.size 0 1 [.string nm, .slice va3 hs.length vc3, .slice va4 ms.length vc4] rfl (fun j u hj => by
            have e : (w5.setCell ⟨wr.heap.size, 2, none⟩ (.slice va4 ms.length vc4)).heap.size = w5.heap.size := by simp [World.setCell]
            have := (ownBox (w5.setCell ⟨wr.heap.size, 2, none⟩ (.slice va4 ms.length vc4)) #[.string nm, .slice va3 hs.length vc3, .slice va4 ms.length vc4] 81 3 w5.heap.size (by rw [e]; exact Nat.le_refl _) rfl).cellAt j (v := u) (by simpa using hj)
            rw [e] at this
            rw [Nat.zero_add]
            exact this) (fun u hu => by
            simp only [List.mem_cons, List.not_mem_nil, or_false] at hu
            rcases hu with rfl | rfl | rfl <;> rfl) (by unfold maxLen; omega) (by omega)
          obtain ⟨g', vc', w8, hap, hO8, hg8, hat⟩ := hAP
          have HAP1 := Lib.hid hap
          have HN8 := Lib.hid (HT.out.round hlt HR.out rfl hz3 HO1.out HB3.out _ HO2.out HB5.out _ _ hO8 hg8 hat)
          have u8 := HN8.out.st.cr 3 _ rfl
          have uf8 := HN8.out.st.fr 3
          clear hap hO8 hg8 hat hO hb hz5 hz1 HBx3 HBx4 HBx5 HB4 HB5 HB5' HB7 HT5 HT7 HO1 HO2 HB3 HR HW2 b1 b2 bf HT hz3
          go_wp2_with (at_builtin; refine wpList_append_run rfl (.tmp 56) (.tmp 58) 22 rfl rfl rfl HAP1.out ?_)
          have HN9 := Lib.hid (HN8.out.setR 3 (.slice (some ⟨g', 0, none⟩) (k + 1) vc'))
          go_roundw
          case rel => exact ⟨k + 1, _, _, _, by omega, by go_num, HN9⟩
          case measure => simp [intOf]; omega
        · have hkl : k = l.length := by omega
          subst hkl
          have i1 : ¬ (l.length : Int) < (l.length : Int) := by omega
          clear HN HC
          have c4 := HT.out.st.cr 4 _ rfl
          have f4 := HT.out.st.fr 4
          go_wp2_with fail
          go_loopw [8] (fun i wx => i = .int .i64 0 ∧ Hid (T3 n s p rs l w wx (stC sec (.slice (some ⟨b, 0, none⟩) 1 1) (.slice a l.length c)) (stC ⟨#[]⟩ (.slice none 0 0) (.slice none 0 0)) (stC sec (.slice (some ⟨g, 0, none⟩) 1 gc) (.slice va2 l.length vc2)) g gc va vc l.length va2 vc2 acc)) (fun _ _ => 0)
          case atStart => exact ⟨rfl, HT.out.same 4 _ rfl⟩
          case round =>
            clear HT c4 f4 k3
            obtain ⟨rfl, HT⟩ := hrel
            have k4 := HT.out.st.cp 4 _ rfl
            have c5 := HT.out.st.cr 5 _ rfl
            have f5 := HT.out.st.fr 5
            go_wp2_with fail
            go_loopw [9] (fun i wx => i = .int .i64 0 ∧ Hid (T3 n s p rs l w wx (stC sec (.slice (some ⟨b, 0, none⟩) 1 1) (.slice a l.length c)) (stC ⟨#[]⟩ (.slice none 0 0) (.slice none 0 0)) (stC sec (.slice (some ⟨g, 0, none⟩) 1 gc) (.slice va2 l.length vc2)) g gc va vc l.length va2 vc2 acc)) (fun _ _ => 0)
            case atStart => exact ⟨rfl, HT.out.same 5 _ rfl⟩
            case round =>
              clear HT k4 c5 f5
              obtain ⟨rfl, HT⟩ := hrel
              have k5 := HT.out.st.cp 5 _ rfl
              have k6 := HT.out.st.cp 6 _ rfl
              have k7 := HT.out.st.cp 7 _ rfl
              have k8 := HT.out.st.cp 8 _ rfl
              have k9 := HT.out.st.cp 9 _ rfl
              have c6 := HT.out.st.cr 6 _ rfl
              have c7 := HT.out.st.cr 7 _ rfl
              have c8 := HT.out.st.cr 8 _ rfl
              have c9 := HT.out.st.cr 9 _ rfl
              have f6 := HT.out.st.fr 6
              have f7 := HT.out.st.fr 7
              have f8 := HT.out.st.fr 8
              have f9 := HT.out.st.fr 9
              go_upto_region 35 with (first | (at_builtin; refine wpList_append_run rfl (.tmp 109) (.tmp 111) 30 rfl rfl rfl (run_append_nil Tryz.underlying30 Tryz.sizeOf124 _ _) ?_) | (at_builtin; refine wpList_append_run rfl (.tmp 116) (.tmp 118) 31 rfl rfl rfl (run_append_nil Tryz.underlying31 Tryz.sizeOf126 _ _) ?_) | (at_builtin; refine wpList_append_run rfl (.tmp 123) (.tmp 125) 32 rfl rfl rfl (run_append_nil Tryz.underlying32 Tryz.sizeOf79 _ _) ?_) | (at_builtin; refine wpList_append_run rfl (.tmp 130) (.tmp 132) 33 rfl rfl rfl (run_append_nil Tryz.underlying33 Tryz.sizeOf90 _ _) ?_))
              have HT2 := Lib.hid ((((((((HT.out.same 6 (.slice none 0 0) rfl).same 6 (.slice none 0 0) rfl).same 7 (.slice none 0 0) rfl).same 7 (.slice none 0 0) rfl).same 8 (.slice none 0 0) rfl).same 8 (.slice none 0 0) rfl).same 9 (.slice none 0 0) rfl).same 9 (.slice none 0 0) rfl)
              clear HT k5 k6 k7 k8 k9 c6 c7 c8 c9 f6 f7 f8 f9
              revert HT2
              generalize World.setCell _ ⟨w.heap.size + 2, 9, none⟩ (Value.slice none 0 0) = W5
              intro HT
              have r0 := HT.out.st.cr 0 _ rfl
              have r1 := HT.out.st.cr 1 _ rfl
              have r2 := HT.out.st.cr 2 _ rfl
              have r3 := HT.out.st.cr 3 _ rfl
              have r4 := HT.out.st.cr 4 _ rfl
              have r5 := HT.out.st.cr 5 _ rfl
              have r6 := HT.out.st.cr 6 _ rfl
              have r7 := HT.out.st.cr 7 _ rfl
              have r8 := HT.out.st.cr 8 _ rfl
              have r9 := HT.out.st.cr 9 _ rfl
              have r10 := HT.out.st.cr 10 _ rfl
              have r11 := HT.out.st.cr 11 _ rfl
              have r12 := HT.out.st.cr 12 _ rfl
              have r13 := HT.out.st.cr 13 _ rfl
              have q0 := HT.out.st.cq 0 _ rfl
              have q1 := HT.out.st.cq 1 _ rfl
              have q2 := HT.out.st.cq 2 _ rfl
              have q3 := HT.out.st.cq 3 _ rfl
              have q4 := HT.out.st.cq 4 _ rfl
              have q5 := HT.out.st.cq 5 _ rfl
              have q6 := HT.out.st.cq 6 _ rfl
              have q7 := HT.out.st.cq 7 _ rfl
              have q8 := HT.out.st.cq 8 _ rfl
              have q9 := HT.out.st.cq 9 _ rfl
              have q10 := HT.out.st.cq 10 _ rfl
              have q11 := HT.out.st.cq 11 _ rfl
              have q12 := HT.out.st.cq 12 _ rfl
              have q13 := HT.out.st.cq 13 _ rfl
              have hf := HT.out.st.fq
              go_wp2_with fail
              have h7 := HT.out.allQ (.int .i64 0) (.string sec) (.slice (some ⟨g, 0, none⟩) 1 gc) (.slice va2 l.length vc2) (.slice none 0 0) (.slice none 0 0) (.slice none 0 0) (.slice none 0 0) (.slice none 0 0) (.slice none 0 0) (.int .i64 0) (.int .i64 0) (.int .i64 0) (.int .i64 0)
              exact ret_twin24 (sec := sec) (us := .slice (some ⟨g, 0, none⟩) 1 gc) (ro := .slice va2 l.length vc2) h7.st rfl rfl (h7.done sec)
end Go.Proofs.YtinijohmdljieaaGreatDoor
