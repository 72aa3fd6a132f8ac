/- Guards of any shape, as data in memory. -/
import Derived.Test.YtkmgbkcpjlilpaaDoorGDeep
namespace Go.Proofs.YtkmgbkcpjlilpaaDoor
open Go.RowKit

theorem cellBelow2 {w w' : World} (hb : Below w.heap.size w w') {a : Addr} {v : Value} (hc : w.cell? a = some v) : w'.cell? a = some v := (hb.cell (World.block_lt_of_cell? w a hc)).trans hc
/-- any guard -/
inductive GD where
  | node (k : Nat) (n : Int) (s : ByteArray) (kids : List GD)
def GD.kids : GD → List GD | .node _ _ _ l => l
mutual
def GD.deep : GD → Nat
  | .node _ _ _ l => GD.deeps l + 1
def GD.deeps : List GD → Nat
  | [] => 0
  | x :: r => max x.deep (GD.deeps r)
end
theorem deeps_snoc (x : GD) : ∀ l : List GD, GD.deeps (l ++ [x]) = max (GD.deeps l) x.deep
  | [] => by simp [GD.deeps]
  | y :: r => by rw [List.cons_append, GD.deeps, GD.deeps, deeps_snoc x r]; omega
theorem GD.deep_eq (g : GD) : g.deep = GD.deeps g.kids + 1 := by cases g; rfl
theorem deeps_mem {x : GD} : ∀ {l : List GD}, x ∈ l → x.deep ≤ GD.deeps l
  | y :: r, h => by
    rw [GD.deeps]
    rcases List.mem_cons.1 h with rfl | h
    · omega
    · have := deeps_mem h; omega
theorem deeps_take_succ {l : List GD} {m : Nat} (h : m < l.length) : GD.deeps (l.take (m + 1)) = max (GD.deeps (l.take m)) l[m].deep := by
  rw [List.take_succ_eq_append_getElem h, deeps_snoc]
theorem deeps_take_le (l : List GD) (m : Nat) : GD.deeps (l.take m) ≤ GD.deeps l := by
  induction l generalizing m with
  | nil => simp
  | cons y r ih =>
    cases m with
    | zero => simp [GD.deeps]
    | succ m => rw [List.take_succ_cons, GD.deeps, GD.deeps]; have := ih m; omega
def GT.toGD : GT → GD
  | .leaf k n s => .node k n s []
  | .one k a => .node k 0 ⟨#[]⟩ [a.toGD]
  | .two k a b => .node k 0 ⟨#[]⟩ [a.toGD, b.toGD]
theorem toGD_deep : ∀ t : GT, t.toGD.deep = t.deep
  | .leaf .. => rfl
  | .one _ a => by simp [GT.toGD, GD.deep, GD.deeps, GT.deep, toGD_deep a]
  | .two _ a b => by simp [GT.toGD, GD.deep, GD.deeps, GT.deep, toGD_deep a, toGD_deep b]
theorem toGD_inj : ∀ {t u : GT}, t.toGD = u.toGD → t = u
  | .leaf .., .leaf .., h => by simp only [GT.toGD, GD.node.injEq] at h; obtain ⟨rfl, rfl, rfl, -⟩ := h; rfl
  | .leaf .., .one .., h => by simp [GT.toGD] at h
  | .leaf .., .two .., h => by simp [GT.toGD] at h
  | .one .., .leaf .., h => by simp [GT.toGD] at h
  | .one .., .one .., h => by
    simp only [GT.toGD, GD.node.injEq, List.cons.injEq, and_true, true_and] at h
    obtain ⟨rfl, h⟩ := h
    rw [toGD_inj h]
  | .one .., .two .., h => by simp [GT.toGD] at h
  | .two .., .leaf .., h => by simp [GT.toGD] at h
  | .two .., .one .., h => by simp [GT.toGD] at h
  | .two .., .two .., h => by
    simp only [GT.toGD, GD.node.injEq, List.cons.injEq, and_true, true_and] at h
    obtain ⟨rfl, h1, h2⟩ := h
    rw [toGD_inj h1, toGD_inj h2]

mutual
def GD.size : GD → Nat
  | .node _ _ s l => 1 + s.size + GD.sizes l
def GD.sizes : List GD → Nat
  | [] => 0
  | x :: r => x.size + GD.sizes r
end
mutual
def GD.inR : GD → Prop
  | .node _ n _ l => (-9223372036854775808 ≤ n ∧ n ≤ 9223372036854775807) ∧ GD.inRs l
def GD.inRs : List GD → Prop
  | [] => True
  | x :: r => x.inR ∧ GD.inRs r
end
theorem sizes_mem {x : GD} : ∀ {l : List GD}, x ∈ l → x.size ≤ GD.sizes l
  | y :: r, h => by
    rw [GD.sizes]
    rcases List.mem_cons.1 h with rfl | h
    · omega
    · have := sizes_mem h; omega
theorem inRs_mem {x : GD} : ∀ {l : List GD}, x ∈ l → GD.inRs l → x.inR
  | y :: r, h, hr => by
    rw [GD.inRs] at hr
    rcases List.mem_cons.1 h with rfl | h
    · exact hr.1
    · exact inRs_mem h hr.2
theorem size_pos : ∀ x : GD, 1 ≤ x.size
  | .node _ _ s l => by rw [GD.size]; omega
theorem sizes_len : ∀ l : List GD, l.length ≤ GD.sizes l
  | [] => Nat.le_refl _
  | x :: r => by rw [GD.sizes, List.length_cons]; have := sizes_len r; have := size_pos x; omega
/-- a guard's four cells, and its kids' -/
inductive GIn (w : World) : GD → List Value → Prop
  | mk (k : Nat) (n : Int) (s : ByteArray) (kids : List GD) (a : Option Addr) (c b off : Nat) (f : Nat → List Value) (hl : kids.length ≤ maxLen) (hc : kids.length ≤ c) (ha : 0 < kids.length → a = some ⟨b, off, none⟩ ∧ b < w.heap.size)
      (h4 : ∀ m, m < kids.length → (f m).length = 4 ∧ ∀ i, i < 4 → w.cell? ⟨b, off + m * 4 + i, none⟩ = (f m)[i]?) (hk : ∀ m (h : m < kids.length), GIn w kids[m] (f m)) :
      GIn w (.node k n s kids) [.int .u8 k, .int .i64 n, .string s, .slice a kids.length c]
theorem GIn.four {w : World} {g : GD} {cs : List Value} (h : GIn w g cs) : ∃ (k : Nat) (n : Int) (s : ByteArray) (a : Option Addr) (l c : Nat), cs = [.int .u8 k, .int .i64 n, .string s, .slice a l c] := by
  cases h; exact ⟨_, _, _, _, _, _, rfl⟩
theorem GIn.kid {w : World} {g : GD} {cs : List Value} (h : GIn w g cs) : ∃ (k : Nat) (n : Int) (s : ByteArray) (a : Option Addr) (c b off : Nat), g = .node k n s g.kids ∧ cs = [.int .u8 k, .int .i64 n, .string s, .slice a g.kids.length c] ∧ g.kids.length ≤ maxLen ∧ g.kids.length ≤ c ∧ (0 < g.kids.length → a = some ⟨b, off, none⟩ ∧ b < w.heap.size) ∧
    ∀ m (h : m < g.kids.length), ∃ c0 c1 c2 c3, w.cell? ⟨b, off + m * 4, none⟩ = some c0 ∧ w.cell? ⟨b, off + m * 4 + 1, none⟩ = some c1 ∧ w.cell? ⟨b, off + m * 4 + 2, none⟩ = some c2 ∧ w.cell? ⟨b, off + m * 4 + 3, none⟩ = some c3 ∧ GIn w g.kids[m] [c0, c1, c2, c3] := by
  cases h with
  | mk k n s kids a c b off f hl hc ha h4 hk =>
    refine ⟨k, n, s, a, c, b, off, rfl, rfl, hl, hc, ha, fun m h => ?_⟩
    have h := (show m < kids.length from h)
    obtain ⟨h5, h6⟩ := h4 m h
    have hg := hk m h
    match hf : f m, h5 with
    | [c0, c1, c2, c3], _ =>
      rw [hf] at h6 hg
      exact ⟨c0, c1, c2, c3, h6 0 (by omega), h6 1 (by omega), h6 2 (by omega), h6 3 (by omega), hg⟩
theorem GIn.keepB {w w' : World} (hb : Below w.heap.size w w') {g : GD} {cs : List Value} (h : GIn w g cs) : GIn w' g cs := by
  induction h with
  | mk k n s kids a c b off f hl hc ha h4 hk ih =>
    refine .mk k n s kids a c b off f hl hc (fun h => ⟨(ha h).1, Nat.lt_of_lt_of_le (ha h).2 hb.size⟩) (fun m h => ⟨(h4 m h).1, fun i hi => ?_⟩) ih
    rw [hb.cell (p := ⟨b, off + m * 4 + i, none⟩) (ha (by omega)).2]
    exact (h4 m h).2 i hi
theorem GIs.gin {X : Nat → Prop} {w : World} : ∀ {t : GT} {cs : List Value}, GIs X w t cs → GIn w t.toGD cs
  | .leaf k n s, _, h => by
    rw [show _ = _ from h]
    exact .mk k n s [] none 0 0 0 (fun _ => []) (by simp) (Nat.le_refl _) (fun h => absurd h (by simp)) (fun m h => absurd h (by simp)) (fun m h => absurd h (by simp))
  | .one k a, _, ⟨b, da, h1, h2, h3, h4⟩ => by
    obtain rfl := h1
    have hg := h4.gin
    obtain ⟨k2, n2, s2, a2, l2, c2, rfl⟩ := hg.four
    refine .mk k 0 ⟨#[]⟩ [a.toGD] _ 1 b 0 (fun _ => [.int .u8 k2, .int .i64 n2, .string s2, .slice a2 l2 c2]) (by unfold maxLen; simp) (Nat.le_refl _) (fun _ => ⟨rfl, h3.lt⟩) (fun m h => ⟨rfl, fun i hi => ?_⟩) (fun m h => ?_)
    · obtain rfl : m = 0 := by simpa using h
      rw [Nat.zero_mul, Nat.zero_add, List.getElem?_eq_getElem (by simpa using hi)]
      exact h3.cell (j := i) (by simpa using hi)
    · obtain rfl : m = 0 := by simpa using h
      exact hg
  | .two k a a2, _, ⟨b, da, db, h1, h2, h3, h4, h5⟩ => by
    obtain rfl := h1
    have hg := h4.gin
    have hg2 := h5.gin
    obtain ⟨k2, n2, s2, p2, l2, c2, rfl⟩ := hg.four
    obtain ⟨k3, n3, s3, p3, l3, c3, rfl⟩ := hg2.four
    refine .mk k 0 ⟨#[]⟩ [a.toGD, a2.toGD] _ 2 b 0 (fun m => if m = 0 then [.int .u8 k2, .int .i64 n2, .string s2, .slice p2 l2 c2] else [.int .u8 k3, .int .i64 n3, .string s3, .slice p3 l3 c3]) (by unfold maxLen; simp) (Nat.le_refl _) (fun _ => ⟨rfl, h3.lt⟩) (fun m h => ⟨by split <;> rfl, fun i hi => ?_⟩) (fun m h => ?_)
    · have h : m < 2 := by simpa using h
      match m, h with
      | 0, _ =>
        rw [if_pos rfl, Nat.zero_mul, Nat.zero_add, List.getElem?_eq_getElem (by simpa using hi)]
        have := h3.cell (j := i) (by simp; omega)
        rw [this, List.getElem_append_left (by simpa using hi)]
      | 1, _ =>
        rw [if_neg (by decide), Nat.one_mul, Nat.zero_add, List.getElem?_eq_getElem (by simpa using hi)]
        have := h3.cell (j := 4 + i) (by simp; omega)
        rw [this, List.getElem_append_right (by simp)]
        simp
    · have h : m < 2 := by simpa using h
      match m, h with
      | 0, _ => exact hg
      | 1, _ => exact hg2
end Go.Proofs.YtkmgbkcpjlilpaaDoor
