/- From the reading of a law's arguments to what they are, and from the walk back to the row. -/
import Derived.Test.YtkmgbkcpjlilpaaDoorBase
import Derived.ProofKit
import Derived.OpenShut
import Derived.Carry
import Derived.Deep.Slices
import Derived.Deep.Strs
import Derived.Deep.DeepHandedRow
import Derived.Lib.LaidTab
namespace Go.Proofs.YtkmgbkcpjlilpaaDoor
open Go.ChangeShapes Go.WideShapes Go.ChangeAt Go.RowKit Go.Deep

section
variable {H : Type} {enc : TypeId × Value → H} {P : Program} {w : World} {base : Nat} {spare : Nat → Bool} {held : Bool}

theorem spot_none {w : World} {a : Addr} {v : Value} (h : w.cell? a = some v) : a = ⟨a.block, a.off, none⟩ := by
  obtain ⟨b, o, s⟩ := a
  cases s with
  | none => rfl
  | some s =>
    unfold World.cell? at h
    split at h
    · simp at h
    · cases h

/-- a slice opened: R is what the cells of an element are. -/
theorem openRow {α : Type} {t e : TypeId} {k : Nat} (ht : P.underlying t = some (.slice e)) (hk : P.cellsOf e = k) (hk0 : 0 < k) {R : World → (Nat → Value) → α → Prop}
    (hel : ∀ n cs y, cs.length = k → DataW.trod enc P w base spare held n e cs = some y → ∃ a : α, R w (fun i => cs.getD i undef) a)
    {n : Nat} {v : Value} {x : DataW H × List MemPlace} (h : DataW.trod enc P w base spare held n t [v] = some x) : ∃ xs : List α, Row k R w.heap.size w v xs ∧ xs.length ≤ maxLen := by
  rcases open_slice ht h with ⟨hcs, hx⟩ | ⟨a, len, cap, m, n', D, Pl, hcs, hb, hl, hm, hmm, hx, hi⟩
  · injection hcs with hcs
    exact ⟨[], ⟨none, 0, 0, 0, by simpa using hcs, by simp, by simp, by simp⟩, by simp⟩
  · injection hcs with hcs
    have hlm : len ≤ m := by rw [hmm]; split <;> omega
    have hsp : 0 < len → a = ⟨a.block, a.off, none⟩ ∧ a.block < w.heap.size := by
      intro hj
      obtain ⟨cs, h1, h2⟩ := hi 0 (by omega)
      rw [hk] at h1
      have hbl := World.cells?_block h1 hk0
      obtain ⟨h3, h4, h5⟩ := World.cells?_some h1
      have := h5 0 hk0
      simp only [Nat.zero_mul, Addr.add_zero'] at this hbl
      rw [List.getElem?_eq_getElem (by omega)] at this
      exact ⟨spot_none this, hbl⟩
    have each : ∀ j, j < len → ∃ a' : α, ∃ cs : List Value, (∀ i, i < k → w.cell? ⟨a.block, a.off + j * k + i, none⟩ = some (cs.getD i undef)) ∧ R w (fun i => cs.getD i undef) a' := by
      intro j hj
      obtain ⟨cs, h1, h2⟩ := hi j (by omega)
      rw [hk] at h1
      obtain ⟨h3, h4, h5⟩ := World.cells?_some h1
      obtain ⟨a', ha'⟩ := hel _ _ _ h4 h2
      refine ⟨a', cs, fun i hik => ?_, ha'⟩
      have := h5 i hik
      rw [(hsp (by omega)).1, Addr.add_lit, Addr.add_lit, List.getElem?_eq_getElem (by omega)] at this
      rw [List.getD_eq_getElem?_getD, List.getElem?_eq_getElem (by omega)]
      exact this
    by_cases h0 : 0 < len
    · obtain ⟨a0, -⟩ := each 0 h0
      have : Inhabited α := ⟨a0⟩
      obtain ⟨f, hf⟩ := choose_lt each
      refine ⟨(List.range len).map f, ⟨some a, cap, a.block, a.off, by simpa using hcs, by simpa using hl, fun _ => ⟨congrArg some (hsp h0).1, (hsp h0).2⟩, fun j y hj => ?_⟩, by simp; omega⟩
      have hjl : j < len := by
        rcases Nat.lt_or_ge j len with h | h
        · exact h
        · rw [List.getElem?_eq_none (by simpa using h)] at hj; cases hj
      have : y = f j := by simp [List.getElem?_map, List.getElem?_range hjl] at hj; exact hj.symm
      obtain ⟨cs, h1, h2⟩ := hf j hjl
      exact ⟨fun i => cs.getD i undef, h1, this ▸ h2⟩
    · obtain rfl : len = 0 := by omega
      exact ⟨[], ⟨some a, cap, 0, 0, by simpa using hcs, by simp, by simp, by simp⟩, by simp⟩

/-- a struct, or an array, of two strings -/
theorem elStr2 {e : TypeId} {f0 f1 : Field} (he : P.underlying e = some (.struct #[f0, f1])) (h0 : f0.offset = 0) (h1 : f1.offset = 1) (t0 : P.underlying f0.type = some .string) (t1 : P.underlying f1.type = some .string)
    (k0 : P.cellsOf f0.type = 1) (k1 : P.cellsOf f1.type = 1)
    (n : Nat) (cs : List Value) (y : DataW H × List MemPlace) (hl : cs.length = 2) (h : DataW.trod enc P w base spare held n e cs = some y) : ∃ a : ByteArray × ByteArray, Str2R w (fun i => cs.getD i undef) a := by
  obtain ⟨y0, y1, m, -, -, g0, g1⟩ := trod_struct2 he h
  obtain ⟨c0, c1, rfl⟩ : ∃ c0 c1, cs = [c0, c1] := by
    match cs, hl with
    | [c0, c1], _ => exact ⟨c0, c1, rfl⟩
  rw [h0, k0] at g0
  rw [h1, k1] at g1
  obtain ⟨s0, e0, -⟩ := DataW.trod_string t0 g0
  obtain ⟨s1, e1, -⟩ := DataW.trod_string t1 g1
  simp at e0 e1
  exact ⟨(s0, s1), by simp [e0], by simp [e1]⟩
theorem elArr2 {e s : TypeId} (he : P.underlying e = some (.array 2 s)) (hs : P.underlying s = some .string) (k : P.cellsOf s = 1)
    (n : Nat) (cs : List Value) (y : DataW H × List MemPlace) (hl : cs.length = 2) (h : DataW.trod enc P w base spare held n e cs = some y) : ∃ a : ByteArray × ByteArray, Str2R w (fun i => cs.getD i undef) a := by
  obtain ⟨xs, m, -, -, -, hxl, hi⟩ := DataW.trod_array he h
  obtain ⟨c0, c1, rfl⟩ : ∃ c0 c1, cs = [c0, c1] := by
    match cs, hl with
    | [c0, c1], _ => exact ⟨c0, c1, rfl⟩
  have g0 := hi 0 (by omega)
  have g1 := hi 1 (by omega)
  rw [k, List.getElem?_eq_getElem (by omega)] at g0 g1
  obtain ⟨s0, e0, -⟩ := DataW.trod_string hs g0
  obtain ⟨s1, e1, -⟩ := DataW.trod_string hs g1
  simp at e0 e1
  exact ⟨(s0, s1), by simp [e0], by simp [e1]⟩
theorem elStr {e : TypeId} (he : P.underlying e = some .string)
    (n : Nat) (cs : List Value) (y : DataW H × List MemPlace) (hl : cs.length = 1) (h : DataW.trod enc P w base spare held n e cs = some y) : ∃ a : ByteArray, StrR w (fun i => cs.getD i undef) a := by
  obtain ⟨s, rfl, -⟩ := DataW.trod_string he h
  exact ⟨s, rfl⟩
end

/-- every argument reads behind the call as it did -/
theorem argsStay {H : Type} {enc : TypeId × Value → H} {P : Program} {W W' : World} (hl : laidOutB P = true) (hb : Below W.heap.size W W') :
    ∀ (ts : List TypeId) (vs : List Value) (ds : List (DataW H)) (p : List MemPlace), ts.all (fun t => P.readableRec t && decide (t < P.types.size)) = true →
      DataW.TrodAll enc P W 0 (fun _ => true) true ts vs ds p → (∀ x ∈ p, x.block < W.heap.size) → DataW.TrodAll enc P W' 0 (fun b => decide (b < W.heap.size)) true ts vs ds p
  | [], [], [], _, _, h, _ => h
  | t :: ts, v :: vs, d :: ds, _, hr, h, hlt => by
    obtain ⟨p, q, h1, h2, rfl⟩ := h
    simp only [List.all_cons, Bool.and_eq_true, decide_eq_true_eq] at hr
    exact ⟨p, q, Below.trod hl hr.1.1 hr.1.2 h1 hb (fun x hx => hlt x (by simp [hx])), argsStay hl hb ts vs ds q hr.2 h2 (fun x hx => hlt x (by simp [hx])), rfl⟩
  | [], [], _ :: _, _, _, h, _ => h.elim
  | [], _ :: _, _, _, _, h, _ => h.elim
  | _ :: _, [], _, _, _, h, _ => h.elim
  | _ :: _, _ :: _, [], _, _, h, _ => h.elim
end Go.Proofs.YtkmgbkcpjlilpaaDoor
