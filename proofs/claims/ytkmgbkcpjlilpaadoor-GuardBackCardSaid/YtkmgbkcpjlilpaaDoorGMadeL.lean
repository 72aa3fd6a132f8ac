/- package guard: made: what it comes to; plain. -/
import Derived.Test.YtkmgbkcpjlilpaaDoorGTextV
import Derived.Test.YtkmgbkcpjlilpaaDoorRfDeep
namespace Go.Proofs.YtkmgbkcpjlilpaaDoor
open Go.RowKit

theorem elemNode : Elem Tryd.prog 81 51 1 16 := ⟨Tryd.underlying81, ⟨.nilIface, by kernel_rfl, rfl⟩, by omega, Tryd.sizeOf51⟩
theorem NodeV.one {t : GT} {v : Value} (h : NodeV t v) : v.oneCell' = true := by
  cases t with
  | leaf => obtain ⟨_, _, rfl⟩ := h; rfl
  | one => obtain ⟨_, rfl, _⟩ := h; rfl
  | two => obtain ⟨_, _, _, _, _, _, _, rfl, _⟩ := h; rfl
theorem NodeV.iface {t : GT} {v : Value} (h : NodeV t v) : ∃ T p, v = .iface T p := by
  cases t with
  | leaf => obtain ⟨_, _, rfl⟩ := h; exact ⟨_, _, rfl⟩
  | one => obtain ⟨_, rfl, _⟩ := h; exact ⟨_, _, rfl⟩
  | two => obtain ⟨_, _, _, _, _, _, _, rfl, _⟩ := h; exact ⟨_, _, rfl⟩
def MadeEnd (g : GD) (w : World) (e : Ending) (w' : World) : Prop := Below w.heap.size w w' ∧ ∃ v b, e = .returned (.tuple #[v, .bool b]) ∧ (b = true → ∃ t : GT, g = t.toGD ∧ t.may ∧ NodeV t v) ∧ ((∃ t : GT, g = t.toGD ∧ t.may) → b = true)
/-- the kids that are made so far -/
def KidsV (g : GD) (m : Nat) (ts : List GT) (vs : List Value) : Prop := ts.length = m ∧ vs.length = m ∧ g.kids.take m = ts.map GT.toGD ∧ (∀ t ∈ ts, t.may) ∧ ∀ j (h : j < ts.length) (h2 : j < vs.length), NodeV ts[j] vs[j]
theorem KidsV.snoc {g : GD} {m : Nat} {ts : List GT} {vs : List Value} (h : KidsV g m ts vs) (hm : m < g.kids.length) {t : GT} {v : Value} (ht : g.kids[m] = t.toGD) (hmay : t.may) (hv : NodeV t v) : KidsV g (m + 1) (ts ++ [t]) (vs ++ [v]) := by
  obtain ⟨h1, h2, h3, h4, h5⟩ := h
  refine ⟨by simp [h1], by simp [h2], ?_, ?_, ?_⟩
  · rw [List.take_succ_eq_append_getElem hm, h3, ht, List.map_append]; rfl
  · intro t' ht'
    rcases List.mem_append.1 ht' with h | h
    · exact h4 t' h
    · rw [List.mem_singleton.1 h]; exact hmay
  · intro j hj hj2
    rw [List.length_append, List.length_singleton] at hj
    rcases Nat.lt_or_ge j m with hlt | hge
    · rw [List.getElem_append_left (by omega), List.getElem_append_left (by omega)]
      exact h5 j _ _
    · obtain rfl : j = m := by omega
      simp [h1, h2, hv]
theorem kids_no {g : GD} {m : Nat} (hm : m < g.kids.length) (hno : ¬ ∃ t : GT, g.kids[m] = t.toGD ∧ t.may) : ¬ ∃ t : GT, g = t.toGD ∧ t.may := by
  rintro ⟨t, rfl, hmay⟩
  refine hno ?_
  cases t with
  | leaf => simp [GT.toGD, GD.kids] at hm
  | one k a =>
    obtain rfl : m = 0 := by simpa [GT.toGD, GD.kids] using hm
    exact ⟨a, rfl, hmay.2⟩
  | two k a b =>
    have hm : m < 2 := by simpa [GT.toGD, GD.kids] using hm
    match m, hm with
    | 0, _ => exact ⟨a, rfl, hmay.2.1⟩
    | 1, _ => exact ⟨b, rfl, hmay.2.2⟩
theorem len_two {α : Type} {l : List α} (h : l.length = 2) : ∃ a b, l = [a, b] := by
  match l, h with
  | [a, b], _ => exact ⟨a, b, rfl⟩
section
variable {k : Nat} {n : Int} {s : ByteArray} {kids : List GD} {b : Bool}
theorem made_leaf (hk : 1 ≤ k ∧ k ≤ 7) (a : Option Addr) (c : Nat) (hb : b = true ↔ kids.length = 0 ∧ (GT.leaf k n s).may) :
    (b = true → ∃ t : GT, GD.node k n s kids = t.toGD ∧ t.may ∧ NodeV t (.iface 83 (.agg #[.int .u8 k, .int .i64 n, .string s, .slice a kids.length c]))) ∧ ((∃ t : GT, GD.node k n s kids = t.toGD ∧ t.may) → b = true) := by
  refine ⟨fun h => ?_, fun ⟨t, h1, h2⟩ => hb.2 ?_⟩
  · obtain ⟨h1, h2⟩ := hb.1 h
    obtain rfl := List.eq_nil_of_length_eq_zero h1
    exact ⟨.leaf k n s, rfl, h2, a, c, rfl⟩
  · cases t with
    | leaf k' n' s' =>
      simp only [GT.toGD, GD.node.injEq] at h1
      obtain ⟨rfl, rfl, rfl, rfl⟩ := h1
      exact ⟨rfl, h2⟩
    | one k' a' =>
      simp only [GT.toGD, GD.node.injEq] at h1
      have := h2.1
      omega
    | two k' a' b' =>
      simp only [GT.toGD, GD.node.injEq] at h1
      have := h2.1
      omega
theorem made_one {ts : List GT} {vs : List Value} {v : Value} (hkv : KidsV (.node 8 n s kids) kids.length ts vs) (hv : kids.length = 1 → vs[0]? = some v) (hb : b = true ↔ kids.length = 1 ∧ n = 0 ∧ s = ⟨#[]⟩) :
    (b = true → ∃ t : GT, GD.node 8 n s kids = t.toGD ∧ t.may ∧ NodeV t (.iface 85 (.agg #[v]))) ∧ ((∃ t : GT, GD.node 8 n s kids = t.toGD ∧ t.may) → b = true) := by
  obtain ⟨q1, q2, h3, h4, h5⟩ := hkv
  refine ⟨fun h => ?_, fun ⟨t, h1, h2⟩ => hb.2 ?_⟩
  · obtain ⟨e1, rfl, rfl⟩ := hb.1 h
    rw [e1] at q1 q2
    obtain ⟨t, rfl⟩ := List.length_eq_one_iff.1 q1
    obtain ⟨u, rfl⟩ := List.length_eq_one_iff.1 q2
    have hu : u = v := by simpa using hv e1
    subst hu
    have h3 : kids.take kids.length = [t.toGD] := h3
    rw [List.take_length] at h3
    subst h3
    exact ⟨.one 8 t, rfl, ⟨rfl, h4 t (by simp)⟩, u, rfl, h5 0 (by simp) (by simp)⟩
  · cases t with
    | leaf k' n' s' =>
      clear hv q1 q2 h3 h4 h5 hb
      simp only [GT.toGD, GD.node.injEq] at h1
      obtain ⟨rfl, -, -, -⟩ := h1
      rcases h2 with ⟨h, _⟩ | ⟨h, _⟩ | ⟨h, _⟩ | ⟨h, _⟩ <;> omega
    | one k' a' =>
      simp only [GT.toGD, GD.node.injEq] at h1
      obtain ⟨-, e2, e3, e4⟩ := h1
      exact ⟨by rw [e4]; rfl, e2, e3⟩
    | two k' a' b' =>
      simp only [GT.toGD, GD.node.injEq] at h1
      have := h2.1
      omega
theorem made_pair {ts : List GT} {vs : List Value} {v u : Value} (hk : 9 ≤ k ∧ k ≤ 15) (a : Option Addr) (c : Nat) (hkv : KidsV (.node k n s kids) kids.length ts vs) (hv : kids.length = 2 → vs[0]? = some v ∧ vs[1]? = some u) (hb : b = true ↔ kids.length = 2 ∧ n = 0 ∧ s = ⟨#[]⟩) :
    (b = true → ∃ t : GT, GD.node k n s kids = t.toGD ∧ t.may ∧ NodeV t (.iface 87 (.agg #[.int .u8 k, .int .i64 n, .string s, .slice a kids.length c, v, u]))) ∧ ((∃ t : GT, GD.node k n s kids = t.toGD ∧ t.may) → b = true) := by
  obtain ⟨q1, q2, h3, h4, h5⟩ := hkv
  refine ⟨fun h => ?_, fun ⟨t, h1, h2⟩ => hb.2 ?_⟩
  · obtain ⟨e1, rfl, rfl⟩ := hb.1 h
    rw [e1] at q1 q2
    obtain ⟨t, t2, rfl⟩ := len_two q1
    obtain ⟨x, y, rfl⟩ := len_two q2
    have hu : x = v ∧ y = u := by simpa using hv e1
    obtain ⟨rfl, rfl⟩ := hu
    have h3 : kids.take kids.length = [t.toGD, t2.toGD] := h3
    rw [List.take_length] at h3
    subst h3
    exact ⟨.two k t t2, rfl, ⟨hk, h4 t (by simp), h4 t2 (by simp)⟩, _, _, _, _, _, x, y, rfl, h5 0 (by simp) (by simp), h5 1 (by simp) (by simp)⟩
  · cases t with
    | leaf k' n' s' =>
      clear hv q1 q2 h3 h4 h5 hb
      simp only [GT.toGD, GD.node.injEq] at h1
      obtain ⟨rfl, -, -, -⟩ := h1
      rcases h2 with ⟨h, _⟩ | ⟨h, _⟩ | ⟨h, _⟩ | ⟨h, _⟩ <;> omega
    | one k' a' =>
      simp only [GT.toGD, GD.node.injEq] at h1
      have := h2.1
      omega
    | two k' a' b' =>
      simp only [GT.toGD, GD.node.injEq] at h1
      obtain ⟨-, e2, e3, e4⟩ := h1
      exact ⟨by rw [e4]; rfl, e2, e3⟩
theorem made_none (hno : ¬ (1 ≤ k ∧ k ≤ 7) ∧ ¬ (k = 8 ∧ kids.length = 1) ∧ ¬ ((9 ≤ k ∧ k ≤ 15) ∧ kids.length = 2)) : ¬ ∃ t : GT, GD.node k n s kids = t.toGD ∧ t.may := by
  rintro ⟨t, h1, h2⟩
  cases t with
  | leaf k' n' s' =>
    simp only [GT.toGD, GD.node.injEq] at h1
    obtain ⟨rfl, rfl, rfl, rfl⟩ := h1
    rcases h2 with ⟨h, _⟩ | ⟨h, _⟩ | ⟨h, _⟩ | ⟨h, _⟩ <;> omega
  | one k' a' =>
    simp only [GT.toGD, GD.node.injEq] at h1
    obtain ⟨rfl, rfl, rfl, rfl⟩ := h1
    exact hno.2.1 ⟨h2.1, rfl⟩
  | two k' a' b' =>
    simp only [GT.toGD, GD.node.injEq] at h1
    obtain ⟨rfl, rfl, rfl, rfl⟩ := h1
    exact hno.2.2 ⟨h2.1, rfl⟩
end
section
variable {k : Nat} {n : Int} {s : ByteArray} {g : GD} {b : Bool} {l : Nat}
theorem made_leafG (heg : g = .node k n s g.kids) (hl : g.kids.length = l) (hk : 1 ≤ k ∧ k ≤ 7) (a : Option Addr) (c : Nat) (hb : b = true ↔ l = 0 ∧ (GT.leaf k n s).may) :
    (b = true → ∃ t : GT, g = t.toGD ∧ t.may ∧ NodeV t (.iface 83 (.agg #[.int .u8 k, .int .i64 n, .string s, .slice a l c]))) ∧ ((∃ t : GT, g = t.toGD ∧ t.may) → b = true) := by
  subst hl
  have h := made_leaf (kids := g.kids) hk a c hb
  rw [← heg] at h
  exact h
theorem made_oneG {ts : List GT} {vs : List Value} {v : Value} (heg : g = .node 8 n s g.kids) (hl : g.kids.length = l) (hkv : KidsV g l ts vs) (hv : l = 1 → vs[0]? = some v) (hb : b = true ↔ l = 1 ∧ n = 0 ∧ s = ⟨#[]⟩) :
    (b = true → ∃ t : GT, g = t.toGD ∧ t.may ∧ NodeV t (.iface 85 (.agg #[v]))) ∧ ((∃ t : GT, g = t.toGD ∧ t.may) → b = true) := by
  subst hl
  have h := made_one (kids := g.kids) (n := n) (s := s) (by rw [← heg]; exact hkv) hv hb
  rw [← heg] at h
  exact h
theorem made_pairG {ts : List GT} {vs : List Value} {v u : Value} (heg : g = .node k n s g.kids) (hl : g.kids.length = l) (hk : 9 ≤ k ∧ k ≤ 15) (a : Option Addr) (c : Nat) (hkv : KidsV g l ts vs) (hv : l = 2 → vs[0]? = some v ∧ vs[1]? = some u) (hb : b = true ↔ l = 2 ∧ n = 0 ∧ s = ⟨#[]⟩) :
    (b = true → ∃ t : GT, g = t.toGD ∧ t.may ∧ NodeV t (.iface 87 (.agg #[.int .u8 k, .int .i64 n, .string s, .slice a l c, v, u]))) ∧ ((∃ t : GT, g = t.toGD ∧ t.may) → b = true) := by
  subst hl
  have h := made_pair (kids := g.kids) (n := n) (s := s) hk a c (by rw [← heg]; exact hkv) hv hb
  rw [← heg] at h
  exact h
theorem made_noneG {v : Value} (heg : g = .node k n s g.kids) (hl : g.kids.length = l) (hno : ¬ (1 ≤ k ∧ k ≤ 7) ∧ ¬ (k = 8 ∧ l = 1) ∧ ¬ ((9 ≤ k ∧ k ≤ 15) ∧ l = 2)) : (false = true → ∃ t : GT, g = t.toGD ∧ t.may ∧ NodeV t v) ∧ ((∃ t : GT, g = t.toGD ∧ t.may) → false = true) := by
  subst hl
  have h := made_none (kids := g.kids) (n := n) (s := s) hno
  rw [← heg] at h
  exact ⟨fun h => absurd h (by decide), fun h' => absurd h' h⟩
end
end Go.Proofs.YtkmgbkcpjlilpaaDoor
