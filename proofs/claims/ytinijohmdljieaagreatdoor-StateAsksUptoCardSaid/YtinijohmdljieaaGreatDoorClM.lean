/- slices.Clone at any type. -/
import Derived.Test.YtinijohmdljieaaGreatDoorGrG
import Derived.Shelf.SlicesE.Clone
import Derived.Shelf.RegionOpenPlain
import Derived.WalkKit
import Derived.Deep.LoopGhost
import Derived.Lib.Walk
import Derived.Lib.SliceRun
namespace Go.Proofs.YtinijohmdljieaaGreatDoor
open Go.RowKit Go.Shelf

set_option maxHeartbeats 2000000 in
set_option maxRecDepth 100000 in
theorem clone_zero {P : Program} {ρ : Ren} (L : Go.Proofs.SlLaysE0.n41 P ρ) {k bytes : Nat} (hE : Elem P (ρ.t 22) (ρ.t 23) k bytes) (a : Addr) (c : Nat) (w : World) : Calls P (ρ.f 41) #[.slice (some a) 0 c] w fun e w' => e = .returned (.slice (some ⟨w.heap.size, 0, none⟩) 0 0) ∧ w' = w.alloc (.cells #[] (ρ.t 23)) := by
  have z23 := hE.size
  have mixed := L.mixed; have t4 := L.t4; have a4 := L.a4; have z4 := L.z4; have v4 := L.v4; have t22 := L.t22; have a22 := L.a22; have z22 := L.z22; have v22 := L.v22
  have q22 : ∀ (w : World) (a : Option Addr) (n c n' c' : Nat), (binOp .eql (ρ.t 22) (.slice a n c) (.slice none n' c')).run P w = .ok (.bool a.isNone) w := fun w a n c n' c' => Lib.run_eql_slice_nil w _ _ a n c n' c' L.t22
  have u22 : ∀ w, Sem.run P (underlying (ρ.t 22)) w = .ok (TypeDesc.slice (ρ.t 23)) w := run_underlying t22
  obtain ⟨_, _, FG⟩ := L.f41
  go_enter FG, SlBodyN.n41_ntmps ρ
  go_wp2
  go_ret
  exact ⟨rfl, rfl⟩
/-- the copy of cells -/
theorem clone_cells {P : Program} {ρ : Ren} (L : Go.Proofs.SlLaysE0.n41 P ρ) {k bytes : Nat} (hE : Elem P (ρ.t 22) (ρ.t 23) k bytes) (a : Option Addr) (n c b off : Nat) (news : List Value) (w : World) (hl : news.length = n * k) (hn : n ≤ maxLen) (hbig : n * bytes ≤ 140737488355328)
    (ha : 0 < n → a = some ⟨b, off, none⟩) (hc : ∀ j u, news[j]? = some u → w.cell? ⟨b, off + j, none⟩ = some u) (h1 : ∀ u ∈ news, u.oneCell' = true) :
    Calls P (ρ.f 41) #[.slice a n c] w fun e w' => ∃ va vc, e = .returned (.slice va n vc) ∧ Own w' w.heap.size (ρ.t 23) k va vc n news ∧ Below w.heap.size w w' := by
  by_cases h0 : 0 < n
  · have := ha h0
    subst this
    obtain ⟨z, hz, hzs⟩ := hE.info
    obtain ⟨i, hi, hz0, hz1, hz2⟩ := info_parts hz
    refine (AnyE.slices_Clone L i z k bytes hi hz0 hz1 hz2 hzs hE.pos hE.size b off n c news w hl hn hbig hc h1).mono ?_
    rintro e w' ⟨v', rfl, hr, -, hbw⟩
    rcases hr.2 with ⟨hv, h1⟩ | ⟨g, cap, _, hv, _⟩
    · omega
    · exact ⟨_, _, by rw [hv], ⟨by rw [hv] at hr; exact hr⟩, hbw⟩
  · obtain rfl : n = 0 := by omega
    have hn0 : news = [] := List.eq_nil_of_length_eq_zero (by omega)
    subst hn0
    cases a with
    | none =>
      refine (AnyE.slices_Clone_nil L 0 c w).mono ?_
      rintro e w' ⟨rfl, rfl⟩
      exact ⟨none, 0, rfl, Own.nil _ _ _ _, Below.refl _ _⟩
    | some a =>
      refine (clone_zero L hE a c w).mono ?_
      rintro e w' ⟨rfl, rfl⟩
      exact ⟨_, _, rfl, ⟨World.ownsRow_made w #[] 0 (Nat.le_refl _) (Nat.zero_le _) (by simp)⟩, (Below.refl _ _).alloc (Nat.le_refl _) _⟩
/-- the copy of a list whose elements hold no place -/
theorem clone_flat {P : Program} {ρ : Ren} (L : Go.Proofs.SlLaysE0.n41 P ρ) {k bytes : Nat} (hE : Elem P (ρ.t 22) (ρ.t 23) k bytes) {α : Type} {f : α → List Value} {xs : List α} (a : Option Addr) (c : Nat) (w : World) (hf : ∀ x, (f x).length = k) (h1 : ∀ x, ∀ u ∈ f x, u.oneCell' = true)
    (hn : xs.length ≤ 1048576) (hk : bytes ≤ 1000) (h : Mem false (From 0) w (flatL k f xs) (.slice a xs.length c)) :
    Calls P (ρ.f 41) #[.slice a xs.length c] w fun e w' => ∃ va vc, e = .returned (.slice va xs.length vc) ∧ Mem true (From w.heap.size) w' (flatL k f xs) (.slice va xs.length vc) ∧ Below w.heap.size w w' := by
  obtain ⟨a', c', b, off, he, -, hC⟩ := flat_open h
  injection he with e1 e2 e3
  subst e1 e3
  have hw : ∀ v ∈ xs.map f, v.length = k := by intro v hv; obtain ⟨x, -, rfl⟩ := List.mem_map.1 hv; exact hf x
  have hfl : (xs.flatMap f).length = xs.length * k := by rw [List.flatMap_def, flat_len (k := k) (xs.map f) hw, List.length_map]
  have hb2 : xs.length * bytes ≤ 1048576 * 1000 := Nat.mul_le_mul hn hk
  refine (clone_cells L hE a xs.length c b off (xs.flatMap f) w hfl (by unfold maxLen; omega) (by omega) (fun h0 => (hC.at0 h0).1) (fun j u hj => ?_) (fun u hu => ?_)).mono ?_
  · have hjl := lt_of_some hj
    rw [hfl] at hjl
    have hk0 : 0 < k := hE.pos
    have hq : j / k < xs.length := Nat.div_lt_of_lt_mul (by rw [Nat.mul_comm]; exact hjl)
    have hr : j % k < k := Nat.mod_lt _ hk0
    have hjk : j / k * k + j % k = j := by rw [Nat.mul_comm]; exact Nat.div_add_mod j k
    have := flat_at (k := k) (xs.map f) hw (j / k) (j % k) (by simpa using hq) hr
    rw [hjk, ← List.flatMap_def, hj, List.getElem_map] at this
    have hc := hC.cell (j / k) hq (j % k) u this.symm
    rw [Nat.add_assoc, hjk] at hc
    exact hc
  · obtain ⟨x, -, hx⟩ := List.mem_flatMap.1 hu
    exact h1 x u hx
  · rintro e w' ⟨va, vc, rfl, hO, hbw⟩
    exact ⟨va, vc, rfl, flat_own hO hE.pos hf, hbw⟩
/-- the copy of a list of records: the cells are copied, what they point to is not -/
theorem clone_rows {P : Program} {ρ : Ren} (L : Go.Proofs.SlLaysE0.n41 P ρ) {k bytes : Nat} (hE : Elem P (ρ.t 22) (ρ.t 23) k bytes) {es : List (List D)} {a : Option Addr} {b off : Nat} {vs : List (List Value)} {w : World} (c : Nat) (hn : es.length ≤ 1048576) (hk : bytes ≤ 1000)
    (h : ListC false (From 0) w k es a b off vs) (h1 : ∀ v ∈ vs, ∀ u ∈ v, u.oneCell' = true) :
    Calls P (ρ.f 41) #[.slice a es.length c] w fun e w' => ∃ va vc, e = .returned (.slice va es.length vc) ∧ Own w' w.heap.size (ρ.t 23) k va vc es.length vs.flatten ∧ Below w.heap.size w w' := by
  have hw : ∀ v ∈ vs, v.length = k := by
    intro v hv
    obtain ⟨j, hj, rfl⟩ := List.mem_iff_getElem.1 hv
    have hj' : j < es.length := by rw [← h.len]; exact hj
    rw [(h.row j hj' hj).1]
    exact h.wid _ (List.getElem_mem hj')
  have hfl : vs.flatten.length = es.length * k := by rw [flat_len (k := k) vs hw, h.len]
  have hb2 : es.length * bytes ≤ 1048576 * 1000 := Nat.mul_le_mul hn hk
  refine clone_cells L hE a es.length c b off vs.flatten w hfl (by unfold maxLen; omega) (by omega) (fun h0 => (h.at0 h0).1) (fun j u hj => ?_) (fun u hu => ?_)
  · have hjl := lt_of_some hj
    rw [hfl] at hjl
    have hk0 : 0 < k := hE.pos
    have hq : j / k < es.length := Nat.div_lt_of_lt_mul (by rw [Nat.mul_comm]; exact hjl)
    have hq' : j / k < vs.length := by rw [h.len]; exact hq
    have hr : j % k < k := Nat.mod_lt _ hk0
    have hjk : j / k * k + j % k = j := by rw [Nat.mul_comm]; exact Nat.div_add_mod j k
    have := flat_at (k := k) vs hw (j / k) (j % k) hq' hr
    rw [hjk, hj] at this
    have hc := h.cell (j / k) hq' (j % k) u this.symm
    rw [Nat.add_assoc, hjk] at hc
    exact hc
  · obtain ⟨v, hv, hu⟩ := List.mem_flatten.1 hu
    exact h1 v hv u hu
/-- a row of cells set -/
theorem flatten_set {α : Type} {k : Nat} : ∀ (vs : List (List α)) (_ : ∀ v ∈ vs, v.length = k) (m i : Nat) (x : α) (h : m < vs.length) (_ : i < k), vs.flatten.set (m * k + i) x = (vs.set m (vs[m].set i x)).flatten
  | v :: vs, hw, 0, i, x, _, hi => by
    have := hw v (List.mem_cons_self ..)
    rw [List.flatten_cons, Nat.zero_mul, Nat.zero_add, List.set_append_left _ _ (by omega)]; rfl
  | v :: vs, hw, m + 1, i, x, h, hi => by
    have h1 := hw v (List.mem_cons_self ..)
    rw [List.flatten_cons, List.set_append_right _ _ (by rw [h1, Nat.add_mul]; omega), h1, show (m + 1) * k + i - k = m * k + i by rw [Nat.add_mul]; omega]
    rw [flatten_set vs (fun x hx => hw x (List.mem_cons_of_mem _ hx)) m i x (by simpa using h) hi]
    rfl
/-- each of a list's first m records is new -/
structure EM (E : TypeId) (k : Nat) (base : Nat) (w W : World) (es : List (List D)) (m : Nat) (g vc : Nat) (vs0 vs : List (List Value)) : Prop where
  own : Own W base E k (some ⟨g, 0, none⟩) vc es.length vs.flatten
  below : Below w.heap.size w W
  bs : w.heap.size ≤ base
  len : vs.length = es.length
  wid : ∀ v ∈ vs, v.length = k
  old : ∀ j (_ : j < vs0.length) (_ : j < vs.length), m ≤ j → vs[j] = vs0[j]
  new : ∀ j (_ : j < es.length) (_ : j < vs.length), j < m → MemL true (fun b => base ≤ b ∧ b ≠ g) W es[j] vs[j]
section
variable {E : TypeId} {k : Nat} {base : Nat} {w W W1 W2 : World} {es : List (List D)} {m g vc : Nat} {vs0 vs : List (List Value)}
theorem EM.start (hO : Own W base E k (some ⟨g, 0, none⟩) vc es.length vs0.flatten) (hb : Below w.heap.size w W) (hs : w.heap.size ≤ base) (hl : vs0.length = es.length) (hw : ∀ v ∈ vs0, v.length = k) : EM E k base w W es 0 g vc vs0 vs0 :=
  ⟨hO, hb, hs, hl, hw, fun _ _ _ _ => rfl, fun _ _ _ h => absurd h (Nat.not_lt_zero _)⟩
theorem EM.cell (h : EM E k base w W es m g vc vs0 vs) (hm : m < es.length) (h0 : m < vs0.length) (i : Nat) (hi : i < k) (u : Value) (hu : vs0[m][i]? = some u) : W.cell? ⟨g, m * k + i, none⟩ = some u := by
  have hm' : m < vs.length := by rw [h.len]; exact hm
  have hf := flat_at (k := k) vs h.wid m i hm' hi
  rw [h.old m h0 hm' (Nat.le_refl _), hu] at hf
  obtain ⟨g', he, -, -, hc, -⟩ := h.own.cell (Nat.mul_pos (by omega) (by omega))
  cases he
  exact hc _ _ hf
theorem EM.frz (h : EM E k base w W es m g vc vs0 vs) (hm : m < es.length) (hk : 0 < k) (j : Nat) : W.frozen? ⟨g, j, none⟩ = false := by
  obtain ⟨g', he, -, -, -, hf⟩ := h.own.cell (Nat.mul_pos (by omega) hk)
  cases he
  exact hf _
theorem EM.lt (h : EM E k base w W es m g vc vs0 vs) : base ≤ g ∧ g < W.heap.size := h.own.lt rfl
theorem EM.kept (h : EM E k base w W es m g vc vs0 vs) (hb : Below w.heap.size w W1) (hk : ∀ q, base ≤ q → q < W.heap.size → W1.heap[q]? = W.heap[q]?) (hs : W.heap.size ≤ W1.heap.size) : EM E k base w W1 es m g vc vs0 vs :=
  ⟨h.own.keptB fun q hq => hk q (h.own.lt hq).1 (h.own.lt hq).2, hb, h.bs, h.len, h.wid, h.old, fun j h1 h2 h3 => (h.new j h1 h2 h3).kept (fun q hq hl => hk q hq.1 hl) hs⟩
/-- a record more -/
theorem EM.next (h : EM E k base w W es m g vc vs0 vs) (hm : m < es.length) {us : List Value} (hu : us.length = k) (hb : Below W.heap.size W W1) (hn : MemL true (From W.heap.size) W1 es[m] us)
    (hO : Own W2 base E k (some ⟨g, 0, none⟩) vc es.length (vs.set m us).flatten) (hbel : Below w.heap.size w W2) (hk : ∀ q, q < W1.heap.size → q ≠ g → W2.heap[q]? = W1.heap[q]?) (hs : W1.heap.size ≤ W2.heap.size) : EM E k base w W2 es (m + 1) g vc vs0 (vs.set m us) := by
  obtain ⟨hg1, hg2⟩ := h.lt
  have hbs := hb.size
  refine ⟨hO, hbel, h.bs, by rw [List.length_set]; exact h.len, fun v hv => ?_, fun j h1 h2 hj => ?_, fun j h1 h2 hj => ?_⟩
  · rcases List.mem_or_eq_of_mem_set hv with h1 | h1
    · exact h.wid v h1
    · rw [h1]; exact hu
  · rw [List.getElem_set_ne (by omega)]
    exact h.old j h1 (by simpa using h2) (by omega)
  · by_cases hjm : j = m
    · subst hjm
      rw [List.getElem_set_self]
      refine ((hn.weak (P' := fun b => base ≤ b ∧ b ≠ g ∧ b < W1.heap.size) fun b hb2 hl => ?_).kept (fun q hq hl => hk q hl hq.2.1) hs).weak fun b hb2 _ => ⟨hb2.1, hb2.2.1⟩
      have : W.heap.size ≤ b := hb2
      exact ⟨by omega, by omega, hl⟩
    · rw [List.getElem_set_ne (by omega)]
      exact (h.new j h1 (by simpa using h2) (by omega)).kept (fun q hq hl => (hk q (by omega) hq.2).trans (hb.block q hl)) (by omega)
theorem EM.done (h : EM E k base w W es es.length g vc vs0 vs) (hk : 0 < k) (hwe : ∀ e ∈ es, e.length = k) : Mem true (From base) W (.list k es) (.slice (some ⟨g, 0, none⟩) es.length vc) :=
  memOwn h.own hk h.len h.wid hwe fun j h1 h2 => (h.new j h1 h2 h1).weak fun _ hb _ => hb.1
end
end Go.Proofs.YtinijohmdljieaaGreatDoor
