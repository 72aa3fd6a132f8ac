/- package model: named; small lemmas for its walks. package guard: what a node is. package guard: made: what it comes to; plain. -/
import Derived.Test.YtfbbkmdhnkmonaaGreatDoorS08
import Derived.Test.YtfbbkmdhnkmonaaGreatDoorChecked
import Derived.Test.YtfbbkmdhnkmonaaGreatDoorS07
import Derived.Test.YtfbbkmdhnkmonaaGreatDoorS06
namespace Go.Proofs.YtfbbkmdhnkmonaaGreatDoor
open Go.RowKit

/-- what the walks lean on -/
def GRng (w : World) : Prop := ∃ t p, w.cell? ⟨2, 0, none⟩ = some (.iface t p)
theorem GRng.below {w w' : World} (h : GRng w) (hb : Below w.heap.size w w') : GRng w' := by
  obtain ⟨t, p, h⟩ := h
  exact ⟨t, p, cellBelow2 hb h⟩
theorem ModelM.grow {o : Bool} {P : Nat → Prop} {w w' : World} {m : ModelD} {v : ModelV} (h : ModelM o P w m v) (hb : Below w.heap.size w w') : ModelM o P w' m v :=
  ⟨h.attrs.grow hb, h.events.grow hb, h.stages.grow hb, h.stones.grow hb, h.apart.grow hb⟩
/-- a model in a block of the call's own -/
theorem box6 {W0 W : World} {b : Nat} {T : TypeId} {m : ModelD} {v : ModelV} (h : Arr W0 b T (v.cs m)) (hb : Below W0.heap.size W0 W) :
    W.cell? ⟨b, 0, none⟩ = some (.string m.name) ∧ W.cell? ⟨b, 1, none⟩ = some (.slice v.a1 m.attrs.length v.c1) ∧ W.cell? ⟨b, 2, none⟩ = some (.slice v.a2 m.events.length v.c2) ∧ W.cell? ⟨b, 3, none⟩ = some (.slice v.a3 m.stages.length v.c3) ∧
    W.cell? ⟨b, 4, none⟩ = some (.slice v.a4 m.stones.length v.c4) ∧ W.cell? ⟨b, 5, none⟩ = some (.slice v.a5 m.apart.length v.c5) := by
  have x0 := h.cell (j := 0) (by simp)
  have x1 := h.cell (j := 1) (by simp)
  have x2 := h.cell (j := 2) (by simp)
  have x3 := h.cell (j := 3) (by simp)
  have x4 := h.cell (j := 4) (by simp)
  have x5 := h.cell (j := 5) (by simp)
  simp only [List.getElem_cons_zero, List.getElem_cons_succ] at x0 x1 x2 x3 x4 x5
  exact ⟨cellBelow2 hb x0, cellBelow2 hb x1, cellBelow2 hb x2, cellBelow2 hb x3, cellBelow2 hb x4, cellBelow2 hb x5⟩
/-- the cells of a guard that was read -/
theorem gin_kt {w : World} {t : GT} {cs : List Value} (h : GIn w t.toGD cs) : ∃ (n : Int) (a : Option Addr) (l c : Nat), cs = [.int .u8 t.kd, .int .i64 n, .string t.tx, .slice a l c] := by
  obtain ⟨k, n, sx, a, c, b, off, heg, rfl, -⟩ := h.kid
  obtain ⟨n', hn⟩ := toGD_node t
  rw [hn] at heg
  simp only [GD.node.injEq] at heg
  obtain ⟨rfl, -, rfl, -⟩ := heg
  exact ⟨_, _, _, _, rfl⟩
theorem gin_zero {w : World} {cs : List Value} (h : GIn w zeroD cs) : ∃ (a : Option Addr) (l c : Nat), cs = [.int .u8 (0 : Nat), .int .i64 0, .string ⟨#[]⟩, .slice a l c] := by
  obtain ⟨k, n, sx, a, c, b, off, heg, rfl, -⟩ := h.kid
  simp only [zeroD, GD.node.injEq] at heg
  obtain ⟨rfl, rfl, rfl, -⟩ := heg
  exact ⟨_, _, _, rfl⟩
theorem namedB_some {s : ByteArray} {t : GT} (h : readOf s = some t) : namedB s = (decide (t.kd = 5) && (t.tx.toList == s.toList)) := by
  unfold namedB; rw [h]
theorem namedB_none {s : ByteArray} (h : readOf s = none) : namedB s = false := by
  unfold namedB; rw [h]
set_option maxHeartbeats 4000000 in
set_option maxRecDepth 100000 in
theorem named_walk (s : ByteArray) (w : World) (hv : GRng w) : Calls Tryz.prog 19 #[.string s] w fun e w' => e = .returned (.bool (namedB s)) ∧ Below w.heap.size w w' := by
  have HR := Lib.hid (Read_walkA s w hv)
  obtain ⟨q, hq⟩ : ∃ q, namedB s = q := ⟨_, rfl⟩
  rw [hq]
  have HQ := Lib.hid hq
  clear hv hq
  go_enter Tryz.func19, Tryz.ntmps19
  go_wp2_with fail
  refine HR.out.mono ?_
  intro e w2 hr
  obtain ⟨hb2, g, a, c, cs, rfl, hg, hA⟩ := hr.answer
  rcases hA.told with ⟨t, hro, rfl, rfl⟩ | ⟨hro, rfl, hc⟩
  · obtain ⟨n, ga, gl, gc, rfl⟩ := gin_kt hg
    have HB3 := Lib.hid (hb2.alloc hb2.size (.cells #[.int .u8 t.kd, .int .i64 n, .string t.tx, .slice ga gl gc] 80))
    have HN := Lib.hid (namedB_some hro)
    clear HR hr hA hg hb2 hro
    by_cases hk : t.kd = 5
    · have e1 : ((t.kd : Int) == 5) = true := by rw [hk]; rfl
      have HN2 : Hid ((t.tx.toList == s.toList) = q) := by
        show _ = _
        rw [← HQ.out, HN.out, hk]; simp
      clear HN HQ hk
      go_wp2_with fail
      go_ret
      exact ⟨ret_bool HN2.out, HB3.out⟩
    · have e1 : ((t.kd : Int) == 5) = false := by simp; omega
      have HN2 : Hid (false = q) := by
        show _ = _
        rw [← HQ.out, HN.out]; simp [hk]
      clear HN HQ hk
      go_wp2_with fail
      go_ret
      exact ⟨ret_bool HN2.out, HB3.out⟩
  · obtain ⟨ga, gl, gc, rfl⟩ := gin_zero hg
    have HB3 := Lib.hid (hb2.alloc hb2.size (.cells #[.int .u8 (0 : Nat), .int .i64 0, .string ⟨#[]⟩, .slice ga gl gc] 80))
    have HN2 : Hid (false = q) := by
      show _ = _
      rw [← HQ.out, namedB_none hro]
    have e1 : (c == 0) = false := by simpa using hc
    clear HR hr hA hg hb2 hro HQ hc
    go_wp2_with fail
    go_ret
    exact ⟨ret_bool HN2.out, HB3.out⟩
end Go.Proofs.YtfbbkmdhnkmonaaGreatDoor

namespace Go.Proofs.YtfbbkmdhnkmonaaGreatDoor
open Go.RowKit

/-- what a node's value is -/
def NodeV : GT → Value → Prop
  | .leaf k n s, v => ∃ (a : Option Addr) (c : Nat), v = .iface 138 (.agg #[.int .u8 k, .int .i64 n, .string s, .slice a 0 c])
  | .one _ a, v => ∃ u, v = .iface 209 (.agg #[u]) ∧ NodeV a u
  | .two k a b, v => ∃ (n : Int) (s : ByteArray) (p : Option Addr) (l c : Nat) (u1 u2 : Value), v = .iface 211 (.agg #[.int .u8 k, .int .i64 n, .string s, .slice p l c, u1, u2]) ∧ NodeV a u1 ∧ NodeV b u2
end Go.Proofs.YtfbbkmdhnkmonaaGreatDoor

namespace Go.Proofs.YtfbbkmdhnkmonaaGreatDoor
open Go.RowKit

theorem elemNode : Elem Tryz.prog 140 133 1 16 := ⟨Tryz.underlying140, ⟨.nilIface, by kernel_rfl, rfl⟩, by omega, Tryz.sizeOf133⟩
theorem NodeV.one {t : GT} {v : Value} (h : NodeV t v) : v.oneCell' = true := by
  cases t with
  | leaf => obtain ⟨_, _, rfl⟩ := h; rfl
  | one => obtain ⟨_, rfl, _⟩ := h; rfl
  | two => obtain ⟨_, _, _, _, _, _, _, rfl, _⟩ := h; rfl
theorem NodeV.iface {t : GT} {v : Value} (h : NodeV t v) : ∃ T p, v = .iface T p := by
  cases t with
  | leaf => obtain ⟨_, _, rfl⟩ := h; exact ⟨_, _, rfl⟩
  | one => obtain ⟨_, rfl, _⟩ := h; exact ⟨_, _, rfl⟩
  | two => obtain ⟨_, _, _, _, _, _, _, rfl, _⟩ := h; exact ⟨_, _, rfl⟩
def MadeEnd (g : GD) (w : World) (e : Ending) (w' : World) : Prop := Below w.heap.size w w' ∧ ∃ v b, e = .returned (.tuple #[v, .bool b]) ∧ (b = true → ∃ t : GT, g = t.toGD ∧ t.may ∧ NodeV t v) ∧ ((∃ t : GT, g = t.toGD ∧ t.may) → b = true)
/-- the kids that are made so far -/
def KidsV (g : GD) (m : Nat) (ts : List GT) (vs : List Value) : Prop := ts.length = m ∧ vs.length = m ∧ g.kids.take m = ts.map GT.toGD ∧ (∀ t ∈ ts, t.may) ∧ ∀ j (h : j < ts.length) (h2 : j < vs.length), NodeV ts[j] vs[j]
theorem KidsV.snoc {g : GD} {m : Nat} {ts : List GT} {vs : List Value} (h : KidsV g m ts vs) (hm : m < g.kids.length) {t : GT} {v : Value} (ht : g.kids[m] = t.toGD) (hmay : t.may) (hv : NodeV t v) : KidsV g (m + 1) (ts ++ [t]) (vs ++ [v]) := by
  obtain ⟨h1, h2, h3, h4, h5⟩ := h
  refine ⟨by simp [h1], by simp [h2], ?_, ?_, ?_⟩
  · rw [List.take_succ_eq_append_getElem hm, h3, ht, List.map_append]; rfl
  · intro t' ht'
    rcases List.mem_append.1 ht' with h | h
    · exact h4 t' h
    · rw [List.mem_singleton.1 h]; exact hmay
  · intro j hj hj2
    rw [List.length_append, List.length_singleton] at hj
    rcases Nat.lt_or_ge j m with hlt | hge
    · rw [List.getElem_append_left (by omega), List.getElem_append_left (by omega)]
      exact h5 j _ _
    · obtain rfl : j = m := by omega
      simp [h1, h2, hv]
theorem kids_no {g : GD} {m : Nat} (hm : m < g.kids.length) (hno : ¬ ∃ t : GT, g.kids[m] = t.toGD ∧ t.may) : ¬ ∃ t : GT, g = t.toGD ∧ t.may := by
  rintro ⟨t, rfl, hmay⟩
  refine hno ?_
  cases t with
  | leaf => simp [GT.toGD, GD.kids] at hm
  | one k a =>
    obtain rfl : m = 0 := by simpa [GT.toGD, GD.kids] using hm
    exact ⟨a, rfl, hmay.2⟩
  | two k a b =>
    have hm : m < 2 := by simpa [GT.toGD, GD.kids] using hm
    match m, hm with
    | 0, _ => exact ⟨a, rfl, hmay.2.1⟩
    | 1, _ => exact ⟨b, rfl, hmay.2.2⟩
theorem len_two {α : Type} {l : List α} (h : l.length = 2) : ∃ a b, l = [a, b] := by
  match l, h with
  | [a, b], _ => exact ⟨a, b, rfl⟩
section
variable {k : Nat} {n : Int} {s : ByteArray} {kids : List GD} {b : Bool}
theorem made_leaf (hk : 1 ≤ k ∧ k ≤ 7) (a : Option Addr) (c : Nat) (hb : b = true ↔ kids.length = 0 ∧ (GT.leaf k n s).may) :
    (b = true → ∃ t : GT, GD.node k n s kids = t.toGD ∧ t.may ∧ NodeV t (.iface 138 (.agg #[.int .u8 k, .int .i64 n, .string s, .slice a kids.length c]))) ∧ ((∃ t : GT, GD.node k n s kids = t.toGD ∧ t.may) → b = true) := by
  refine ⟨fun h => ?_, fun ⟨t, h1, h2⟩ => hb.2 ?_⟩
  · obtain ⟨h1, h2⟩ := hb.1 h
    obtain rfl := List.eq_nil_of_length_eq_zero h1
    exact ⟨.leaf k n s, rfl, h2, a, c, rfl⟩
  · cases t with
    | leaf k' n' s' =>
      simp only [GT.toGD, GD.node.injEq] at h1
      obtain ⟨rfl, rfl, rfl, rfl⟩ := h1
      exact ⟨rfl, h2⟩
    | one k' a' =>
      simp only [GT.toGD, GD.node.injEq] at h1
      have := h2.1
      omega
    | two k' a' b' =>
      simp only [GT.toGD, GD.node.injEq] at h1
      have := h2.1
      omega
theorem made_one {ts : List GT} {vs : List Value} {v : Value} (hkv : KidsV (.node 8 n s kids) kids.length ts vs) (hv : kids.length = 1 → vs[0]? = some v) (hb : b = true ↔ kids.length = 1 ∧ n = 0 ∧ s = ⟨#[]⟩) :
    (b = true → ∃ t : GT, GD.node 8 n s kids = t.toGD ∧ t.may ∧ NodeV t (.iface 209 (.agg #[v]))) ∧ ((∃ t : GT, GD.node 8 n s kids = t.toGD ∧ t.may) → b = true) := by
  obtain ⟨q1, q2, h3, h4, h5⟩ := hkv
  refine ⟨fun h => ?_, fun ⟨t, h1, h2⟩ => hb.2 ?_⟩
  · obtain ⟨e1, rfl, rfl⟩ := hb.1 h
    rw [e1] at q1 q2
    obtain ⟨t, rfl⟩ := List.length_eq_one_iff.1 q1
    obtain ⟨u, rfl⟩ := List.length_eq_one_iff.1 q2
    have hu : u = v := by simpa using hv e1
    subst hu
    have h3 : kids.take kids.length = [t.toGD] := h3
    rw [List.take_length] at h3
    subst h3
    exact ⟨.one 8 t, rfl, ⟨rfl, h4 t (by simp)⟩, u, rfl, h5 0 (by simp) (by simp)⟩
  · cases t with
    | leaf k' n' s' =>
      clear hv q1 q2 h3 h4 h5 hb
      simp only [GT.toGD, GD.node.injEq] at h1
      obtain ⟨rfl, -, -, -⟩ := h1
      rcases h2 with ⟨h, _⟩ | ⟨h, _⟩ | ⟨h, _⟩ | ⟨h, _⟩ <;> omega
    | one k' a' =>
      simp only [GT.toGD, GD.node.injEq] at h1
      obtain ⟨-, e2, e3, e4⟩ := h1
      exact ⟨by rw [e4]; rfl, e2, e3⟩
    | two k' a' b' =>
      simp only [GT.toGD, GD.node.injEq] at h1
      have := h2.1
      omega
theorem made_pair {ts : List GT} {vs : List Value} {v u : Value} (hk : 9 ≤ k ∧ k ≤ 15) (a : Option Addr) (c : Nat) (hkv : KidsV (.node k n s kids) kids.length ts vs) (hv : kids.length = 2 → vs[0]? = some v ∧ vs[1]? = some u) (hb : b = true ↔ kids.length = 2 ∧ n = 0 ∧ s = ⟨#[]⟩) :
    (b = true → ∃ t : GT, GD.node k n s kids = t.toGD ∧ t.may ∧ NodeV t (.iface 211 (.agg #[.int .u8 k, .int .i64 n, .string s, .slice a kids.length c, v, u]))) ∧ ((∃ t : GT, GD.node k n s kids = t.toGD ∧ t.may) → b = true) := by
  obtain ⟨q1, q2, h3, h4, h5⟩ := hkv
  refine ⟨fun h => ?_, fun ⟨t, h1, h2⟩ => hb.2 ?_⟩
  · obtain ⟨e1, rfl, rfl⟩ := hb.1 h
    rw [e1] at q1 q2
    obtain ⟨t, t2, rfl⟩ := len_two q1
    obtain ⟨x, y, rfl⟩ := len_two q2
    have hu : x = v ∧ y = u := by simpa using hv e1
    obtain ⟨rfl, rfl⟩ := hu
    have h3 : kids.take kids.length = [t.toGD, t2.toGD] := h3
    rw [List.take_length] at h3
    subst h3
    exact ⟨.two k t t2, rfl, ⟨hk, h4 t (by simp), h4 t2 (by simp)⟩, _, _, _, _, _, x, y, rfl, h5 0 (by simp) (by simp), h5 1 (by simp) (by simp)⟩
  · cases t with
    | leaf k' n' s' =>
      clear hv q1 q2 h3 h4 h5 hb
      simp only [GT.toGD, GD.node.injEq] at h1
      obtain ⟨rfl, -, -, -⟩ := h1
      rcases h2 with ⟨h, _⟩ | ⟨h, _⟩ | ⟨h, _⟩ | ⟨h, _⟩ <;> omega
    | one k' a' =>
      simp only [GT.toGD, GD.node.injEq] at h1
      have := h2.1
      omega
    | two k' a' b' =>
      simp only [GT.toGD, GD.node.injEq] at h1
      obtain ⟨-, e2, e3, e4⟩ := h1
      exact ⟨by rw [e4]; rfl, e2, e3⟩
theorem made_none (hno : ¬ (1 ≤ k ∧ k ≤ 7) ∧ ¬ (k = 8 ∧ kids.length = 1) ∧ ¬ ((9 ≤ k ∧ k ≤ 15) ∧ kids.length = 2)) : ¬ ∃ t : GT, GD.node k n s kids = t.toGD ∧ t.may := by
  rintro ⟨t, h1, h2⟩
  cases t with
  | leaf k' n' s' =>
    simp only [GT.toGD, GD.node.injEq] at h1
    obtain ⟨rfl, rfl, rfl, rfl⟩ := h1
    rcases h2 with ⟨h, _⟩ | ⟨h, _⟩ | ⟨h, _⟩ | ⟨h, _⟩ <;> omega
  | one k' a' =>
    simp only [GT.toGD, GD.node.injEq] at h1
    obtain ⟨rfl, rfl, rfl, rfl⟩ := h1
    exact hno.2.1 ⟨h2.1, rfl⟩
  | two k' a' b' =>
    simp only [GT.toGD, GD.node.injEq] at h1
    obtain ⟨rfl, rfl, rfl, rfl⟩ := h1
    exact hno.2.2 ⟨h2.1, rfl⟩
end
section
variable {k : Nat} {n : Int} {s : ByteArray} {g : GD} {b : Bool} {l : Nat}
theorem made_leafG (heg : g = .node k n s g.kids) (hl : g.kids.length = l) (hk : 1 ≤ k ∧ k ≤ 7) (a : Option Addr) (c : Nat) (hb : b = true ↔ l = 0 ∧ (GT.leaf k n s).may) :
    (b = true → ∃ t : GT, g = t.toGD ∧ t.may ∧ NodeV t (.iface 138 (.agg #[.int .u8 k, .int .i64 n, .string s, .slice a l c]))) ∧ ((∃ t : GT, g = t.toGD ∧ t.may) → b = true) := by
  subst hl
  have h := made_leaf (kids := g.kids) hk a c hb
  rw [← heg] at h
  exact h
theorem made_oneG {ts : List GT} {vs : List Value} {v : Value} (heg : g = .node 8 n s g.kids) (hl : g.kids.length = l) (hkv : KidsV g l ts vs) (hv : l = 1 → vs[0]? = some v) (hb : b = true ↔ l = 1 ∧ n = 0 ∧ s = ⟨#[]⟩) :
    (b = true → ∃ t : GT, g = t.toGD ∧ t.may ∧ NodeV t (.iface 209 (.agg #[v]))) ∧ ((∃ t : GT, g = t.toGD ∧ t.may) → b = true) := by
  subst hl
  have h := made_one (kids := g.kids) (n := n) (s := s) (by rw [← heg]; exact hkv) hv hb
  rw [← heg] at h
  exact h
theorem made_pairG {ts : List GT} {vs : List Value} {v u : Value} (heg : g = .node k n s g.kids) (hl : g.kids.length = l) (hk : 9 ≤ k ∧ k ≤ 15) (a : Option Addr) (c : Nat) (hkv : KidsV g l ts vs) (hv : l = 2 → vs[0]? = some v ∧ vs[1]? = some u) (hb : b = true ↔ l = 2 ∧ n = 0 ∧ s = ⟨#[]⟩) :
    (b = true → ∃ t : GT, g = t.toGD ∧ t.may ∧ NodeV t (.iface 211 (.agg #[.int .u8 k, .int .i64 n, .string s, .slice a l c, v, u]))) ∧ ((∃ t : GT, g = t.toGD ∧ t.may) → b = true) := by
  subst hl
  have h := made_pair (kids := g.kids) (n := n) (s := s) hk a c (by rw [← heg]; exact hkv) hv hb
  rw [← heg] at h
  exact h
theorem made_noneG {v : Value} (heg : g = .node k n s g.kids) (hl : g.kids.length = l) (hno : ¬ (1 ≤ k ∧ k ≤ 7) ∧ ¬ (k = 8 ∧ l = 1) ∧ ¬ ((9 ≤ k ∧ k ≤ 15) ∧ l = 2)) : (false = true → ∃ t : GT, g = t.toGD ∧ t.may ∧ NodeV t v) ∧ ((∃ t : GT, g = t.toGD ∧ t.may) → false = true) := by
  subst hl
  have h := made_none (kids := g.kids) (n := n) (s := s) hno
  rw [← heg] at h
  exact ⟨fun h => absurd h (by decide), fun h' => absurd h' h⟩
end
end Go.Proofs.YtfbbkmdhnkmonaaGreatDoor
