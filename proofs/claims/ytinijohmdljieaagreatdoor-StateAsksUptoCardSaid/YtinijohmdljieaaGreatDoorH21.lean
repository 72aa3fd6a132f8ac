/- Data of a shape, whose texts, numbers and truths may change. docketlaw24.spoil: what it writes is new memory alone. -/
import Derived.Test.YtinijohmdljieaaGreatDoorSSame
import Derived.Test.YtinijohmdljieaaGreatDoorH12
namespace Go.Proofs.YtinijohmdljieaaGreatDoor
open Go.RowKit

/-- values of one kind -/
def Kin (a b : Value) : Prop := a = b ∨ (∃ s t, a = .string s ∧ b = .string t) ∨ (∃ k i j, a = .int k i ∧ b = .int k j) ∨ ∃ s t, a = .bool s ∧ b = .bool t
theorem Kin.refl (a : Value) : Kin a a := .inl rfl
theorem Kin.str (s t : ByteArray) : Kin (.string s) (.string t) := .inr (.inl ⟨s, t, rfl, rfl⟩)
theorem Kin.int (k : IntKind) (i j : Int) : Kin (.int k i) (.int k j) := .inr (.inr (.inl ⟨k, i, j, rfl, rfl⟩))
theorem Kin.boo (s t : Bool) : Kin (.bool s) (.bool t) := .inr (.inr (.inr ⟨s, t, rfl, rfl⟩))
theorem Kin.ofStr {s : ByteArray} {b : Value} (h : Kin (.string s) b) : ∃ t, b = .string t := by
  rcases h with h | ⟨_, t, _, h⟩ | ⟨_, _, _, h, _⟩ | ⟨_, _, h, _⟩
  · exact ⟨s, h.symm⟩
  · exact ⟨t, h⟩
  · cases h
  · cases h
theorem Kin.ofInt {k : IntKind} {i : Int} {b : Value} (h : Kin (.int k i) b) : ∃ j, b = .int k j := by
  rcases h with h | ⟨_, _, h, _⟩ | ⟨_, _, j, h, h2⟩ | ⟨_, _, h, _⟩
  · exact ⟨i, h.symm⟩
  · cases h
  · cases h; exact ⟨j, h2⟩
  · cases h
theorem Kin.ofBool {s : Bool} {b : Value} (h : Kin (.bool s) b) : ∃ t, b = .bool t := by
  rcases h with h | ⟨_, _, h, _⟩ | ⟨_, _, _, h, _⟩ | ⟨_, t, _, h⟩
  · exact ⟨s, h.symm⟩
  · cases h
  · cases h
  · exact ⟨t, h⟩
theorem Kin.trans {a b c : Value} (h : Kin a b) (h2 : Kin b c) : Kin a c := by
  rcases h with rfl | ⟨s, t, rfl, rfl⟩ | ⟨k, i, j, rfl, rfl⟩ | ⟨s, t, rfl, rfl⟩
  · exact h2
  · obtain ⟨t, rfl⟩ := h2.ofStr
    exact .str _ _
  · obtain ⟨t, rfl⟩ := h2.ofInt
    exact .int _ _ _
  · obtain ⟨t, rfl⟩ := h2.ofBool
    exact .boo _ _
/-- a datum's shape: its lists lie in blocks from lo on and can be written -/
inductive Shp (lo : Nat) (w : World) : D → Value → Prop where
  | atom (v u : Value) (h : Kin v u) : Shp lo w (.atom v) u
  | list (k : Nat) (es : List (List D)) (a : Option Addr) (c b off : Nat) (cv : Nat → Nat → Value) (hle : es.length ≤ c) (ha : 0 < es.length → a = some ⟨b, off, none⟩ ∧ lo ≤ b ∧ b < w.heap.size) (hke : ∀ (j : Nat) (e : List D), es[j]? = some e → e.length = k)
      (hc : ∀ j, j < es.length → ∀ i, i < k → w.cell? ⟨b, off + j * k + i, none⟩ = some (cv j i) ∧ w.frozen? ⟨b, off + j * k + i, none⟩ = false)
      (hm : ∀ (j : Nat) (e : List D) (i : Nat) (d : D), es[j]? = some e → e[i]? = some d → Shp lo w d (cv j i)) : Shp lo w (.list k es) (.slice a es.length c)
def ShpL (lo : Nat) (w : World) (ds : List D) (us : List Value) : Prop := us.length = ds.length ∧ ∀ (i : Nat) d u, ds[i]? = some d → us[i]? = some u → Shp lo w d u
theorem Shp.of {lo : Nat} {w : World} {d : D} {v : Value} (h : Mem true (From lo) w d v) : Shp lo w d v := by
  induction h with
  | atom v => exact .atom v v (.refl v)
  | list k es vs a c b off hl hle ha hk1 hk2 hc hm ih =>
    rw [hl]
    refine .list k es a c b off (fun j i => ((vs[j]?.getD [])[i]?).getD undef) (by omega) (fun h0 => ha (by omega)) hk2 (fun j hj i hi => ?_) (fun j e i d hj hi => ?_)
    · have hj' : j < vs.length := by omega
      have hv := List.getElem?_eq_getElem hj'
      have hi' : i < vs[j].length := by rw [hk1 j _ hv]; exact hi
      have hu := List.getElem?_eq_getElem hi'
      obtain ⟨h1, h2⟩ := hc j _ i _ hv hu
      simp only [hv, Option.getD_some, hu]
      exact ⟨h1, h2 rfl⟩
    · have hj' : j < vs.length := by have := lt_of_some hj; omega
      have hv := List.getElem?_eq_getElem hj'
      have hi' : i < vs[j].length := by rw [hk1 j _ hv, ← hk2 j _ hj]; exact lt_of_some hi
      have hu := List.getElem?_eq_getElem hi'
      simp only [hv, Option.getD_some, hu]
      exact ih j _ e i _ d hv hj hu hi
theorem ShpL.of {lo : Nat} {w : World} {ds : List D} {us : List Value} (h : MemL true (From lo) w ds us) : ShpL lo w ds us := ⟨h.1, fun i d u h1 h2 => .of (h.2 i d u h1 h2)⟩
theorem Shp.kin {lo : Nat} {w : World} {d : D} {x y : Value} (h : Shp lo w d x) (hk : Kin x y) : Shp lo w d y := by
  cases h with
  | atom v _ h => exact .atom v y (h.trans hk)
  | list k es a c b off cv hle ha hke hc hm =>
    rcases hk with rfl | ⟨_, _, h, _⟩ | ⟨_, _, _, h, _⟩ | ⟨_, _, h, _⟩
    · exact .list k es a c b off cv hle ha hke hc hm
    · cases h
    · cases h
    · cases h
/-- a cell may change within its kind -/
theorem Shp.set {lo : Nat} {w : World} {d : D} {v : Value} (h : Shp lo w d v) {p : Addr} {x y : Value} (hp : w.cell? p = some x) (hk : Kin x y) : Shp lo (w.setCell p y) d v := by
  induction h with
  | atom v u h => exact .atom v u h
  | list k es a c b off cv hle ha hke hc hm ih =>
    refine .list k es a c b off (fun j i => if p = ⟨b, off + j * k + i, none⟩ then y else cv j i) hle (fun h0 => ⟨(ha h0).1, (ha h0).2.1, by simpa using (ha h0).2.2⟩) hke (fun j hj i hi => ?_) (fun j e i d hj hi => ?_)
    · obtain ⟨h1, h2⟩ := hc j hj i hi
      refine ⟨?_, by rw [World.frozen?_setCell]; exact h2⟩
      by_cases he : p = ⟨b, off + j * k + i, none⟩
      · rw [if_pos he, ← he]
        exact World.cell?_setCell_same _ _ _ hp
      · rw [if_neg he, World.cell?_setCell_other _ _ _ _ he]
        exact h1
    · by_cases he : p = ⟨b, off + j * k + i, none⟩
      · simp only [if_pos he]
        obtain ⟨h1, -⟩ := hc j (lt_of_some hj) i (by rw [← hke j e hj]; exact lt_of_some hi)
        rw [← he, hp] at h1
        injection h1 with h1
        exact (ih j e i d hj hi).kin (h1 ▸ hk)
      · simp only [if_neg he]
        exact ih j e i d hj hi
theorem ShpL.set {lo : Nat} {w : World} {ds : List D} {us : List Value} (h : ShpL lo w ds us) {p : Addr} {x y : Value} (hp : w.cell? p = some x) (hk : Kin x y) : ShpL lo (w.setCell p y) ds us := ⟨h.1, fun i d u h1 h2 => (h.2 i d u h1 h2).set hp hk⟩
theorem Shp.kept {lo : Nat} {w w' : World} {d : D} {v : Value} (h : Shp lo w d v) (hb : ∀ k, lo ≤ k → k < w.heap.size → w'.heap[k]? = w.heap[k]?) (hs : w.heap.size ≤ w'.heap.size) : Shp lo w' d v := by
  induction h with
  | atom v u h => exact .atom v u h
  | list k es a c b off cv hle ha hke hc hm ih =>
    refine .list k es a c b off cv hle (fun h0 => ⟨(ha h0).1, (ha h0).2.1, Nat.lt_of_lt_of_le (ha h0).2.2 hs⟩) hke (fun j hj i hi => ?_) ih
    have hbl := hb b (ha (by omega)).2.1 (ha (by omega)).2.2
    rw [World.cell?_of_block hbl, World.frozen?_of_block hbl]
    exact hc j hj i hi
theorem ShpL.kept {lo : Nat} {w w' : World} {ds : List D} {us : List Value} (h : ShpL lo w ds us) (hb : ∀ k, lo ≤ k → k < w.heap.size → w'.heap[k]? = w.heap[k]?) (hs : w.heap.size ≤ w'.heap.size) : ShpL lo w' ds us := ⟨h.1, fun i d u h1 h2 => (h.2 i d u h1 h2).kept hb hs⟩
theorem ShpL.grow {lo : Nat} {w w' : World} {ds : List D} {us : List Value} (h : ShpL lo w ds us) (hb : Below w.heap.size w w') : ShpL lo w' ds us := h.kept (fun k _ hk => hb.block k hk) hb.size
theorem Shp.low {lo lo' : Nat} {w : World} {d : D} {v : Value} (h : Shp lo w d v) (hl : lo' ≤ lo) : Shp lo' w d v := by
  induction h with
  | atom v u h => exact .atom v u h
  | list k es a c b off cv hle ha hke hc hm ih => exact .list k es a c b off cv hle (fun h0 => ⟨(ha h0).1, Nat.le_trans hl (ha h0).2.1, (ha h0).2.2⟩) hke hc ih
theorem ShpL.low {lo lo' : Nat} {w : World} {ds : List D} {us : List Value} (h : ShpL lo w ds us) (hl : lo' ≤ lo) : ShpL lo' w ds us := ⟨h.1, fun i d u h1 h2 => (h.2 i d u h1 h2).low hl⟩
/-- a list of that shape, opened -/
theorem Shp.listInv {lo : Nat} {w : World} {k : Nat} {es : List (List D)} {u : Value} (h : Shp lo w (.list k es) u) : ∃ a c b off, u = .slice a es.length c ∧ es.length ≤ c ∧ (0 < es.length → a = some ⟨b, off, none⟩ ∧ lo ≤ b ∧ b < w.heap.size) ∧
    ∀ j (h : j < es.length), ∃ us, ShpL lo w es[j] us ∧ ∀ i x, us[i]? = some x → w.cell? ⟨b, off + j * k + i, none⟩ = some x ∧ w.frozen? ⟨b, off + j * k + i, none⟩ = false := by
  cases h with
  | list _ _ a c b off cv hle ha hke hc hm =>
    refine ⟨a, c, b, off, rfl, hle, ha, fun j hj => ?_⟩
    have he := List.getElem?_eq_getElem hj
    have hk := hke j _ he
    refine ⟨(List.range k).map (cv j), ⟨by simp [hk], fun i d u h1 h2 => ?_⟩, fun i x hx => ?_⟩
    · rw [List.getElem?_map] at h2
      have hi : i < k := by rw [← hk]; exact lt_of_some h1
      rw [List.getElem?_range hi] at h2
      injection h2 with h2
      rw [← h2]
      exact hm j _ i d he h1
    · rw [List.getElem?_map] at hx
      have hi : i < k := by
        have := lt_of_some (show ((List.range k).map (cv j))[i]? = some x by rw [List.getElem?_map]; exact hx)
        simpa using this
      rw [List.getElem?_range hi] at hx
      injection hx with hx
      rw [← hx]
      exact hc j hj i hi
theorem ShpL.inv {lo : Nat} {w : World} {d : D} {ds : List D} {us : List Value} (h : ShpL lo w (d :: ds) us) : ∃ u us', us = u :: us' ∧ Shp lo w d u ∧ ShpL lo w ds us' := by
  cases us with
  | nil => have := h.1; simp at this
  | cons u us => exact ⟨u, us, rfl, h.2 0 d u rfl rfl, by have := h.1; simp at this; exact this, fun i d' u' h1 h2 => h.2 (i + 1) d' u' (by simpa using h1) (by simpa using h2)⟩
theorem ShpL.inv0 {lo : Nat} {w : World} {us : List Value} (h : ShpL lo w [] us) : us = [] := List.eq_nil_of_length_eq_zero (by simpa using h.1)
theorem ShpL.nil (lo : Nat) (w : World) : ShpL lo w [] [] := ⟨rfl, fun i d u h => absurd h (by simp)⟩
theorem ShpL.cons {lo : Nat} {w : World} {d : D} {u : Value} {ds : List D} {us : List Value} (h : Shp lo w d u) (hs : ShpL lo w ds us) : ShpL lo w (d :: ds) (u :: us) := by
  refine ⟨by simp [hs.1], fun i d' u' h1 h2 => ?_⟩
  cases i with
  | zero => simp at h1 h2; subst h1 h2; exact h
  | succ i => simp at h1 h2; exact hs.2 i d' u' h1 h2
theorem Shp.atomInv {lo : Nat} {w : World} {v u : Value} (h : Shp lo w (.atom v) u) : Kin v u := match h with | .atom _ _ h => h
theorem Kin.str' {s : ByteArray} {b : Value} (h : Kin (.string s) b) : ∃ t, b = .string t := h.ofStr
end Go.Proofs.YtinijohmdljieaaGreatDoor

namespace Go.Proofs.YtinijohmdljieaaGreatDoor
open Go.RowKit

theorem shp_box {lo : Nat} {w : World} {ds : List D} {us : List Value} (E : TypeId) (h : ShpL lo w ds us) (hlo : lo ≤ w.heap.size) : Shp lo (w.alloc (.cells us.toArray E)) (.list ds.length [ds]) (.slice (some ⟨w.heap.size, 0, none⟩) 1 1) := by
  have hb := ownBox w us.toArray E us.length w.heap.size (Nat.le_refl _) (by simp)
  have hg : ShpL lo (w.alloc (.cells us.toArray E)) ds us := h.grow ((Below.refl _ _).alloc (Nat.le_refl _) _)
  refine Shp.list ds.length [ds] (some ⟨w.heap.size, 0, none⟩) 1 w.heap.size 0 (fun _ i => (us[i]?).getD undef) (Nat.le_refl _) (fun _ => ⟨rfl, hlo, by simp⟩) (fun j e hj => ?_) (fun j hj i hi => ?_) (fun j e i d hj hi => ?_)
  · have hj0 : j = 0 := by have := lt_of_some hj; simp at this; exact this
    subst hj0
    simp at hj; rw [← hj]
  · have hj0 : j = 0 := by simp at hj; exact hj
    subst hj0
    have hiu : i < us.length := by rw [h.1]; exact hi
    have hu := List.getElem?_eq_getElem hiu
    simp only [hu, Option.getD_some]
    refine ⟨?_, hb.frozenAt _⟩
    rw [Nat.zero_mul, Nat.zero_add]
    exact hb.cellAt i (by simp)
  · have hj0 : j = 0 := by have := lt_of_some hj; simp at this; exact this
    subst hj0
    simp at hj
    subst hj
    have hiu : i < us.length := by rw [h.1]; exact lt_of_some hi
    have hu := List.getElem?_eq_getElem hiu
    simp only [hu, Option.getD_some]
    exact hg.2 i d _ hi hu
/-- a box opened -/
theorem Shp.boxInv {lo : Nat} {w : World} {k B c : Nat} {ds : List D} (h : Shp lo w (.list k [ds]) (.slice (some ⟨B, 0, none⟩) 1 c)) : ∃ us, ShpL lo w ds us ∧ lo ≤ B ∧ B < w.heap.size ∧ ∀ i x, us[i]? = some x → w.cell? ⟨B, i, none⟩ = some x ∧ w.frozen? ⟨B, i, none⟩ = false := by
  obtain ⟨a, c', b, off, he, -, ha, hr⟩ := h.listInv
  injection he with e1 e2 e3
  obtain ⟨h1, h2, h3⟩ := ha (by simp)
  rw [h1] at e1
  injection e1 with e1
  injection e1 with e4 e5
  subst e4 e5
  obtain ⟨us, hu, hc⟩ := hr 0 (by simp)
  refine ⟨us, hu, h2, h3, fun i x hi => ?_⟩
  have := hc i x hi
  simpa using this
/-- a list's element opened -/
theorem Shp.rowInv {lo : Nat} {w : World} {k n c : Nat} {a : Option Addr} {es : List (List D)} (h : Shp lo w (.list k es) (.slice a n c)) {j : Nat} (hj : j < es.length) : n = es.length ∧ n ≤ c ∧ ∃ b off us, a = some ⟨b, off, none⟩ ∧ lo ≤ b ∧ ShpL lo w es[j] us ∧ ∀ i x, us[i]? = some x → w.cell? ⟨b, off + j * k + i, none⟩ = some x ∧ w.frozen? ⟨b, off + j * k + i, none⟩ = false := by
  obtain ⟨a', c', b, off, he, hle, ha, hr⟩ := h.listInv
  injection he with e1 e2 e3
  subst e1 e2 e3
  obtain ⟨us, hu, hc⟩ := hr j hj
  exact ⟨rfl, hle, b, off, us, (ha (by omega)).1, (ha (by omega)).2.1, hu, hc⟩
/-- the state under way: what was there stays, all that is new keeps its shape -/
structure SPI (lo B : Nat) (sd : StateD) (w W : World) : Prop where
  below : Below lo w W
  st : Shp lo W (.list 14 [sd.ds]) (.slice (some ⟨B, 0, none⟩) 1 1)
/-- a state's lists -/
structure StC (lo B : Nat) (sd : StateD) (W : World) (a2 a3 a4 a5 a6 a7 a8 a9 : Option Addr) (c2 c3 c4 c5 c6 c7 c8 c9 : Nat) : Prop where
  k2 : W.cell? ⟨B, 2, none⟩ = some (.slice a2 sd.users.length c2)
  k3 : W.cell? ⟨B, 3, none⟩ = some (.slice a3 sd.roles.length c3)
  k4 : W.cell? ⟨B, 4, none⟩ = some (.slice a4 sd.models.length c4)
  k5 : W.cell? ⟨B, 5, none⟩ = some (.slice a5 sd.cases.length c5)
  k6 : W.cell? ⟨B, 6, none⟩ = some (.slice a6 sd.timers.length c6)
  k7 : W.cell? ⟨B, 7, none⟩ = some (.slice a7 sd.works.length c7)
  k8 : W.cell? ⟨B, 8, none⟩ = some (.slice a8 sd.audit.length c8)
  k9 : W.cell? ⟨B, 9, none⟩ = some (.slice a9 sd.sess.length c9)
  u : Shp lo W (.list 4 (sd.users.map UserD.ds)) (.slice a2 sd.users.length c2)
  m : Shp lo W (.list 7 (sd.models.map VerD.ds)) (.slice a4 sd.models.length c4)
  c : Shp lo W (.list 7 (sd.cases.map CaseD.ds)) (.slice a5 sd.cases.length c5)
theorem Shp.slc {lo : Nat} {w : World} {k : Nat} {es : List (List D)} {u : Value} (h : Shp lo w (.list k es) u) : ∃ a c, u = .slice a es.length c := by
  obtain ⟨a, c, _, _, rfl, -⟩ := h.listInv
  exact ⟨a, c, rfl⟩
theorem SPI.cells {lo B : Nat} {sd : StateD} {w W : World} (h : SPI lo B sd w W) : ∃ a2 a3 a4 a5 a6 a7 a8 a9 c2 c3 c4 c5 c6 c7 c8 c9, StC lo B sd W a2 a3 a4 a5 a6 a7 a8 a9 c2 c3 c4 c5 c6 c7 c8 c9 := by
  obtain ⟨us, hu, -, -, hc⟩ := h.st.boxInv
  obtain ⟨x0, y0, rfl, h0, hu⟩ := ShpL.inv hu
  obtain ⟨x1, y1, rfl, h1, hu⟩ := hu.inv
  obtain ⟨x2, y2, rfl, h2, hu⟩ := hu.inv
  obtain ⟨x3, y3, rfl, h3, hu⟩ := hu.inv
  obtain ⟨x4, y4, rfl, h4, hu⟩ := hu.inv
  obtain ⟨x5, y5, rfl, h5, hu⟩ := hu.inv
  obtain ⟨x6, y6, rfl, h6, hu⟩ := hu.inv
  obtain ⟨x7, y7, rfl, h7, hu⟩ := hu.inv
  obtain ⟨x8, y8, rfl, h8, hu⟩ := hu.inv
  obtain ⟨x9, y9, rfl, h9, hu⟩ := hu.inv
  obtain ⟨a2, c2, rfl⟩ := h2.slc
  obtain ⟨a3, c3, rfl⟩ := h3.slc
  obtain ⟨a4, c4, rfl⟩ := h4.slc
  obtain ⟨a5, c5, rfl⟩ := h5.slc
  obtain ⟨a6, c6, rfl⟩ := h6.slc
  obtain ⟨a7, c7, rfl⟩ := h7.slc
  obtain ⟨a8, c8, rfl⟩ := h8.slc
  obtain ⟨a9, c9, rfl⟩ := h9.slc
  simp only [List.length_map] at *
  exact ⟨a2, a3, a4, a5, a6, a7, a8, a9, c2, c3, c4, c5, c6, c7, c8, c9, (hc 2 _ rfl).1, (hc 3 _ rfl).1, (hc 4 _ rfl).1, (hc 5 _ rfl).1, (hc 6 _ rfl).1, (hc 7 _ rfl).1, (hc 8 _ rfl).1, (hc 9 _ rfl).1, h2, h4, h5⟩
theorem SPI.set {lo B : Nat} {sd : StateD} {w W : World} (h : SPI lo B sd w W) {p : Addr} {x y : Value} (hp : W.cell? p = some x) (hk : Kin x y) (hl : lo ≤ p.block) : SPI lo B sd w (W.setCell p y) := ⟨h.below.setCell hl y, h.st.set hp hk⟩
/-- a user, a text, a truth, a sentry, a stage, a case, a version opened -/
structure UserO (lo : Nat) (W : World) (u : UserD) (b o : Nat) (t : ByteArray) (ra : Option Addr) (rc : Nat) : Prop where
  c0 : W.cell? ⟨b, o, none⟩ = some (.string t)
  f0 : W.frozen? ⟨b, o, none⟩ = false
  c3 : W.cell? ⟨b, o + 3, none⟩ = some (.slice ra u.rs.length rc)
  s3 : Shp lo W (strD u.rs) (.slice ra u.rs.length rc)
theorem Shp.user {lo n c m : Nat} {W : World} {a : Option Addr} {l : List UserD} (h : Shp lo W (.list 4 (l.map UserD.ds)) (.slice a n c)) (hm : m < l.length) : ∃ b off t ra rc, a = some ⟨b, off, none⟩ ∧ lo ≤ b ∧ UserO lo W l[m] b (off + m * 4) t ra rc := by
  obtain ⟨-, -, b, off, us, rfl, hl, hu, hc⟩ := h.rowInv (j := m) (by simpa using hm)
  rw [List.getElem_map] at hu
  obtain ⟨x0, y0, rfl, h0, hu⟩ := ShpL.inv hu
  obtain ⟨x1, y1, rfl, h1, hu⟩ := hu.inv
  obtain ⟨x2, y2, rfl, h2, hu⟩ := hu.inv
  obtain ⟨x3, y3, rfl, h3, hu⟩ := hu.inv
  obtain ⟨t, rfl⟩ := h0.atomInv.ofStr
  obtain ⟨ra, rc, rfl⟩ := h3.slc
  simp only [List.length_map] at h3 hc
  exact ⟨b, off, t, ra, rc, rfl, hl, (hc 0 _ rfl).1, (hc 0 _ rfl).2, (hc 3 _ rfl).1, h3⟩
theorem Shp.text {lo n c m : Nat} {W : World} {a : Option Addr} {l : List ByteArray} (h : Shp lo W (strD l) (.slice a n c)) (hm : m < l.length) : ∃ b off t, a = some ⟨b, off, none⟩ ∧ lo ≤ b ∧ W.cell? ⟨b, off + m, none⟩ = some (.string t) ∧ W.frozen? ⟨b, off + m, none⟩ = false := by
  obtain ⟨-, -, b, off, us, rfl, hl, hu, hc⟩ := Shp.rowInv h (j := m) (by simpa using hm)
  rw [List.getElem_map] at hu
  obtain ⟨x0, y0, rfl, h0, hu⟩ := ShpL.inv hu
  obtain ⟨t, rfl⟩ := h0.atomInv.ofStr
  have := hc 0 _ rfl
  rw [Nat.mul_one] at this
  exact ⟨b, off, t, rfl, hl, this.1, this.2⟩
theorem Shp.truth {lo n c m : Nat} {W : World} {a : Option Addr} {l : List Bool} (h : Shp lo W (flatL 1 boolC l) (.slice a n c)) (hm : m < l.length) : ∃ b off t, a = some ⟨b, off, none⟩ ∧ lo ≤ b ∧ W.cell? ⟨b, off + m, none⟩ = some (.bool t) ∧ W.frozen? ⟨b, off + m, none⟩ = false := by
  obtain ⟨-, -, b, off, us, rfl, hl, hu, hc⟩ := Shp.rowInv h (j := m) (by simpa using hm)
  rw [List.getElem_map] at hu
  obtain ⟨x0, y0, rfl, h0, hu⟩ := ShpL.inv hu
  obtain ⟨t, rfl⟩ := h0.atomInv.ofBool
  have := hc 0 _ rfl
  rw [Nat.mul_one] at this
  exact ⟨b, off, t, rfl, hl, this.1, this.2⟩
theorem Shp.sen {lo n c m : Nat} {W : World} {a : Option Addr} {l : List SentryD} (h : Shp lo W (senD l) (.slice a n c)) (hm : m < l.length) : ∃ b off t, a = some ⟨b, off, none⟩ ∧ lo ≤ b ∧ W.cell? ⟨b, off + m * 3 + 1, none⟩ = some (.string t) ∧ W.frozen? ⟨b, off + m * 3 + 1, none⟩ = false := by
  obtain ⟨-, -, b, off, us, rfl, hl, hu, hc⟩ := Shp.rowInv h (j := m) (by simpa using hm)
  rw [List.getElem_map] at hu
  obtain ⟨x0, y0, rfl, h0, hu⟩ := ShpL.inv hu
  obtain ⟨x1, y1, rfl, h1, hu⟩ := hu.inv
  obtain ⟨t, rfl⟩ := h1.atomInv.ofStr
  exact ⟨b, off, t, rfl, hl, (hc 1 _ rfl).1, (hc 1 _ rfl).2⟩
structure StageO (lo : Nat) (W : World) (u : StageD) (b o : Nat) (t : ByteArray) (ra : Option Addr) (rc : Nat) : Prop where
  c0 : W.cell? ⟨b, o, none⟩ = some (.string t)
  f0 : W.frozen? ⟨b, o, none⟩ = false
  c2 : W.cell? ⟨b, o + 2, none⟩ = some (.slice ra u.opens.length rc)
  s2 : Shp lo W (senD u.opens) (.slice ra u.opens.length rc)
theorem Shp.stage {lo n c m : Nat} {W : World} {a : Option Addr} {l : List StageD} (h : Shp lo W (.list 7 (l.map StageD.ds)) (.slice a n c)) (hm : m < l.length) : ∃ b off t ra rc, a = some ⟨b, off, none⟩ ∧ lo ≤ b ∧ StageO lo W l[m] b (off + m * 7) t ra rc := by
  obtain ⟨-, -, b, off, us, rfl, hl, hu, hc⟩ := h.rowInv (j := m) (by simpa using hm)
  rw [List.getElem_map] at hu
  obtain ⟨x0, y0, rfl, h0, hu⟩ := ShpL.inv hu
  obtain ⟨x1, y1, rfl, h1, hu⟩ := hu.inv
  obtain ⟨x2, y2, rfl, h2, hu⟩ := hu.inv
  obtain ⟨t, rfl⟩ := h0.atomInv.ofStr
  obtain ⟨ra, rc, rfl⟩ := h2.slc
  simp only [List.length_map] at h2 hc
  exact ⟨b, off, t, ra, rc, rfl, hl, (hc 0 _ rfl).1, (hc 0 _ rfl).2, (hc 2 _ rfl).1, h2⟩
structure CaseO (lo : Nat) (W : World) (u : CaseD) (b o : Nat) (t : Int) (ra : Option Addr) (rc : Nat) : Prop where
  c0 : W.cell? ⟨b, o, none⟩ = some (.int .i64 t)
  f0 : W.frozen? ⟨b, o, none⟩ = false
  c4 : W.cell? ⟨b, o + 4, none⟩ = some (.slice ra u.opn.length rc)
  s4 : Shp lo W (flatL 1 boolC u.opn) (.slice ra u.opn.length rc)
theorem Shp.cas {lo n c m : Nat} {W : World} {a : Option Addr} {l : List CaseD} (h : Shp lo W (.list 7 (l.map CaseD.ds)) (.slice a n c)) (hm : m < l.length) : ∃ b off t ra rc, a = some ⟨b, off, none⟩ ∧ lo ≤ b ∧ CaseO lo W l[m] b (off + m * 7) t ra rc := by
  obtain ⟨-, -, b, off, us, rfl, hl, hu, hc⟩ := h.rowInv (j := m) (by simpa using hm)
  rw [List.getElem_map] at hu
  obtain ⟨x0, y0, rfl, h0, hu⟩ := ShpL.inv hu
  obtain ⟨x1, y1, rfl, h1, hu⟩ := hu.inv
  obtain ⟨x2, y2, rfl, h2, hu⟩ := hu.inv
  obtain ⟨x3, y3, rfl, h3, hu⟩ := hu.inv
  obtain ⟨x4, y4, rfl, h4, hu⟩ := hu.inv
  obtain ⟨t, rfl⟩ := h0.atomInv.ofInt
  obtain ⟨ra, rc, rfl⟩ := h4.slc
  simp only [List.length_map] at h4 hc
  exact ⟨b, off, t, ra, rc, rfl, hl, (hc 0 _ rfl).1, (hc 0 _ rfl).2, (hc 4 _ rfl).1, h4⟩
/-- a version's model: its six cells -/
theorem Shp.ver {lo n c m : Nat} {W : World} {a : Option Addr} {l : List VerD} (h : Shp lo W (.list 7 (l.map VerD.ds)) (.slice a n c)) (hm : m < l.length) : ∃ b off t a1 c1 a2 c2 a3 c3 a4 c4 a5 c5, a = some ⟨b, off, none⟩ ∧ lo ≤ b ∧
    ShpL lo W l[m].m.ds [.string t, .slice a1 l[m].m.attrs.length c1, .slice a2 l[m].m.events.length c2, .slice a3 l[m].m.stages.length c3, .slice a4 l[m].m.stones.length c4, .slice a5 l[m].m.apart.length c5] ∧
    W.cell? ⟨b, off + m * 7, none⟩ = some (.string t) ∧ W.cell? ⟨b, off + m * 7 + 1, none⟩ = some (.slice a1 l[m].m.attrs.length c1) ∧ W.cell? ⟨b, off + m * 7 + 2, none⟩ = some (.slice a2 l[m].m.events.length c2) ∧ W.cell? ⟨b, off + m * 7 + 3, none⟩ = some (.slice a3 l[m].m.stages.length c3) ∧
    W.cell? ⟨b, off + m * 7 + 4, none⟩ = some (.slice a4 l[m].m.stones.length c4) ∧ W.cell? ⟨b, off + m * 7 + 5, none⟩ = some (.slice a5 l[m].m.apart.length c5) := by
  obtain ⟨-, -, b, off, us, rfl, hl, hu, hc⟩ := h.rowInv (j := m) (by simpa using hm)
  rw [List.getElem_map] at hu
  obtain ⟨x0, y0, rfl, h0, hu⟩ := ShpL.inv hu
  obtain ⟨x1, y1, rfl, h1, hu⟩ := hu.inv
  obtain ⟨x2, y2, rfl, h2, hu⟩ := hu.inv
  obtain ⟨x3, y3, rfl, h3, hu⟩ := hu.inv
  obtain ⟨x4, y4, rfl, h4, hu⟩ := hu.inv
  obtain ⟨x5, y5, rfl, h5, hu⟩ := hu.inv
  obtain ⟨t, rfl⟩ := h0.atomInv.ofStr
  obtain ⟨a1, c1, rfl⟩ := h1.slc
  obtain ⟨a2, c2, rfl⟩ := h2.slc
  obtain ⟨a3, c3, rfl⟩ := h3.slc
  obtain ⟨a4, c4, rfl⟩ := h4.slc
  obtain ⟨a5, c5, rfl⟩ := h5.slc
  simp only [List.length_map] at h1 h2 h3 h4 h5 hc
  exact ⟨b, off, t, a1, c1, a2, c2, a3, c3, a4, c4, a5, c5, rfl, hl, .cons h0 (.cons h1 (.cons h2 (.cons h3 (.cons h4 (.cons h5 (ShpL.nil _ _)))))), (hc 0 _ rfl).1, (hc 1 _ rfl).1, (hc 2 _ rfl).1, (hc 3 _ rfl).1, (hc 4 _ rfl).1, (hc 5 _ rfl).1⟩
/-- a model's box: its stages -/
theorem Shp.mbox {lo B : Nat} {W : World} {md : ModelD} (h : Shp lo W (.list 6 [md.ds]) (.slice (some ⟨B, 0, none⟩) 1 1)) : ∃ a c, W.cell? ⟨B, 3, none⟩ = some (.slice a md.stages.length c) ∧ Shp lo W (.list 7 (md.stages.map StageD.ds)) (.slice a md.stages.length c) := by
  obtain ⟨us, hu, -, -, hc⟩ := h.boxInv
  obtain ⟨x0, y0, rfl, h0, hu⟩ := ShpL.inv hu
  obtain ⟨x1, y1, rfl, h1, hu⟩ := hu.inv
  obtain ⟨x2, y2, rfl, h2, hu⟩ := hu.inv
  obtain ⟨x3, y3, rfl, h3, hu⟩ := hu.inv
  obtain ⟨a, c, rfl⟩ := h3.slc
  simp only [List.length_map] at h3 hc
  exact ⟨a, c, (hc 3 _ rfl).1, h3⟩
/-- .. with a model's box -/
structure SPM (lo B B2 : Nat) (sd : StateD) (md : ModelD) (w W : World) : Prop where
  s : SPI lo B sd w W
  m : Shp lo W (.list 6 [md.ds]) (.slice (some ⟨B2, 0, none⟩) 1 1)
theorem SPM.set {lo B B2 : Nat} {sd : StateD} {md : ModelD} {w W : World} (h : SPM lo B B2 sd md w W) {p : Addr} {x y : Value} (hp : W.cell? p = some x) (hk : Kin x y) (hl : lo ≤ p.block) : SPM lo B B2 sd md w (W.setCell p y) := ⟨h.s.set hp hk hl, h.m.set hp hk⟩
theorem SPI.call {lo B : Nat} {sd : StateD} {w W W' : World} (h : SPI lo B sd w W) (hlo : lo ≤ w.heap.size) (hb : Below W.heap.size W W') : SPI lo B sd w W' :=
  ⟨h.below.trans (hb.mono (Nat.le_trans hlo h.below.size)), h.st.kept (fun k _ hk => hb.block k hk) hb.size⟩
theorem SPI.alloc {lo B : Nat} {sd : StateD} {md : ModelD} {w W : World} (h : SPI lo B sd w W) (hlo : lo ≤ w.heap.size) {us : List Value} (E : TypeId) (hu : ShpL lo W md.ds us) : SPM lo B W.heap.size sd md w (W.alloc (.cells us.toArray E)) :=
  have hs : w.heap.size ≤ W.heap.size := h.below.size
  ⟨⟨h.below.alloc (by omega) _, h.st.kept (fun k _ hk => ((Below.refl W.heap.size W).alloc (Nat.le_refl _) _).block k hk) (by simp)⟩, shp_box E hu (by omega)⟩
end Go.Proofs.YtinijohmdljieaaGreatDoor
