/- From the reading of a law's arguments to what they are, and from the walk back to the row. A slice of strings among the arguments of a law. A world for the witness of the laws on states: the two listed tables as they are laid; roles and users among the arguments. -/
import Derived.Test.YtinijohmdljieaaGreatDoorBase
import Derived.ProofKit
import Derived.OpenShut
import Derived.Carry
import Derived.Deep.Slices
import Derived.Deep.Strs
import Derived.Deep.DeepHandedRow
import Derived.Lib.LaidTab
import Derived.Lay
import Derived.LaidLaws
import Derived.Test.YtinijohmdljieaaGreatDoorCards
import Derived.Test.YtinijohmdljieaaGreatDoorTie
import Derived.Test.YtinijohmdljieaaGreatDoorRoleData
namespace Go.Proofs.YtinijohmdljieaaGreatDoor
open Go.ChangeShapes Go.WideShapes Go.ChangeAt Go.RowKit Go.Deep

section
variable {H : Type} {enc : TypeId × Value → H} {P : Program} {w : World} {base : Nat} {spare : Nat → Bool} {held : Bool}

theorem spot_none {w : World} {a : Addr} {v : Value} (h : w.cell? a = some v) : a = ⟨a.block, a.off, none⟩ := by
  obtain ⟨b, o, s⟩ := a
  cases s with
  | none => rfl
  | some s =>
    unfold World.cell? at h
    split at h
    · simp at h
    · cases h

/-- a slice opened: R is what the cells of an element are. -/
theorem openRow {α : Type} {t e : TypeId} {k : Nat} (ht : P.underlying t = some (.slice e)) (hk : P.cellsOf e = k) (hk0 : 0 < k) {R : World → (Nat → Value) → α → Prop}
    (hel : ∀ n cs y, cs.length = k → DataW.trod enc P w base spare held n e cs = some y → ∃ a : α, R w (fun i => cs.getD i undef) a)
    {n : Nat} {v : Value} {x : DataW H × List MemPlace} (h : DataW.trod enc P w base spare held n t [v] = some x) : ∃ xs : List α, Row k R w.heap.size w v xs ∧ xs.length ≤ maxLen := by
  rcases open_slice ht h with ⟨hcs, hx⟩ | ⟨a, len, cap, m, n', D, Pl, hcs, hb, hl, hm, hmm, hx, hi⟩
  · injection hcs with hcs
    exact ⟨[], ⟨none, 0, 0, 0, by simpa using hcs, by simp, by simp, by simp⟩, by simp⟩
  · injection hcs with hcs
    have hlm : len ≤ m := by rw [hmm]; split <;> omega
    have hsp : 0 < len → a = ⟨a.block, a.off, none⟩ ∧ a.block < w.heap.size := by
      intro hj
      obtain ⟨cs, h1, h2⟩ := hi 0 (by omega)
      rw [hk] at h1
      have hbl := World.cells?_block h1 hk0
      obtain ⟨h3, h4, h5⟩ := World.cells?_some h1
      have := h5 0 hk0
      simp only [Nat.zero_mul, Addr.add_zero'] at this hbl
      rw [List.getElem?_eq_getElem (by omega)] at this
      exact ⟨spot_none this, hbl⟩
    have each : ∀ j, j < len → ∃ a' : α, ∃ cs : List Value, (∀ i, i < k → w.cell? ⟨a.block, a.off + j * k + i, none⟩ = some (cs.getD i undef)) ∧ R w (fun i => cs.getD i undef) a' := by
      intro j hj
      obtain ⟨cs, h1, h2⟩ := hi j (by omega)
      rw [hk] at h1
      obtain ⟨h3, h4, h5⟩ := World.cells?_some h1
      obtain ⟨a', ha'⟩ := hel _ _ _ h4 h2
      refine ⟨a', cs, fun i hik => ?_, ha'⟩
      have := h5 i hik
      rw [(hsp (by omega)).1, Addr.add_lit, Addr.add_lit, List.getElem?_eq_getElem (by omega)] at this
      rw [List.getD_eq_getElem?_getD, List.getElem?_eq_getElem (by omega)]
      exact this
    by_cases h0 : 0 < len
    · obtain ⟨a0, -⟩ := each 0 h0
      have : Inhabited α := ⟨a0⟩
      obtain ⟨f, hf⟩ := choose_lt each
      refine ⟨(List.range len).map f, ⟨some a, cap, a.block, a.off, by simpa using hcs, by simpa using hl, fun _ => ⟨congrArg some (hsp h0).1, (hsp h0).2⟩, fun j y hj => ?_⟩, by simp; omega⟩
      have hjl : j < len := by
        rcases Nat.lt_or_ge j len with h | h
        · exact h
        · rw [List.getElem?_eq_none (by simpa using h)] at hj; cases hj
      have : y = f j := by simp [List.getElem?_map, List.getElem?_range hjl] at hj; exact hj.symm
      obtain ⟨cs, h1, h2⟩ := hf j hjl
      exact ⟨fun i => cs.getD i undef, h1, this ▸ h2⟩
    · obtain rfl : len = 0 := by omega
      exact ⟨[], ⟨some a, cap, 0, 0, by simpa using hcs, by simp, by simp, by simp⟩, by simp⟩

/-- a struct, or an array, of two strings -/
theorem elStr2 {e : TypeId} {f0 f1 : Field} (he : P.underlying e = some (.struct #[f0, f1])) (h0 : f0.offset = 0) (h1 : f1.offset = 1) (t0 : P.underlying f0.type = some .string) (t1 : P.underlying f1.type = some .string)
    (k0 : P.cellsOf f0.type = 1) (k1 : P.cellsOf f1.type = 1)
    (n : Nat) (cs : List Value) (y : DataW H × List MemPlace) (hl : cs.length = 2) (h : DataW.trod enc P w base spare held n e cs = some y) : ∃ a : ByteArray × ByteArray, Str2R w (fun i => cs.getD i undef) a := by
  obtain ⟨y0, y1, m, -, -, g0, g1⟩ := trod_struct2 he h
  obtain ⟨c0, c1, rfl⟩ : ∃ c0 c1, cs = [c0, c1] := by
    match cs, hl with
    | [c0, c1], _ => exact ⟨c0, c1, rfl⟩
  rw [h0, k0] at g0
  rw [h1, k1] at g1
  obtain ⟨s0, e0, -⟩ := DataW.trod_string t0 g0
  obtain ⟨s1, e1, -⟩ := DataW.trod_string t1 g1
  simp at e0 e1
  exact ⟨(s0, s1), by simp [e0], by simp [e1]⟩
theorem elArr2 {e s : TypeId} (he : P.underlying e = some (.array 2 s)) (hs : P.underlying s = some .string) (k : P.cellsOf s = 1)
    (n : Nat) (cs : List Value) (y : DataW H × List MemPlace) (hl : cs.length = 2) (h : DataW.trod enc P w base spare held n e cs = some y) : ∃ a : ByteArray × ByteArray, Str2R w (fun i => cs.getD i undef) a := by
  obtain ⟨xs, m, -, -, -, hxl, hi⟩ := DataW.trod_array he h
  obtain ⟨c0, c1, rfl⟩ : ∃ c0 c1, cs = [c0, c1] := by
    match cs, hl with
    | [c0, c1], _ => exact ⟨c0, c1, rfl⟩
  have g0 := hi 0 (by omega)
  have g1 := hi 1 (by omega)
  rw [k, List.getElem?_eq_getElem (by omega)] at g0 g1
  obtain ⟨s0, e0, -⟩ := DataW.trod_string hs g0
  obtain ⟨s1, e1, -⟩ := DataW.trod_string hs g1
  simp at e0 e1
  exact ⟨(s0, s1), by simp [e0], by simp [e1]⟩
theorem elStr {e : TypeId} (he : P.underlying e = some .string)
    (n : Nat) (cs : List Value) (y : DataW H × List MemPlace) (hl : cs.length = 1) (h : DataW.trod enc P w base spare held n e cs = some y) : ∃ a : ByteArray, StrR w (fun i => cs.getD i undef) a := by
  obtain ⟨s, rfl, -⟩ := DataW.trod_string he h
  exact ⟨s, rfl⟩
end

/-- every argument reads behind the call as it did -/
theorem argsStay {H : Type} {enc : TypeId × Value → H} {P : Program} {W W' : World} (hl : laidOutB P = true) (hb : Below W.heap.size W W') :
    ∀ (ts : List TypeId) (vs : List Value) (ds : List (DataW H)) (p : List MemPlace), ts.all (fun t => P.readableRec t && decide (t < P.types.size)) = true →
      DataW.TrodAll enc P W 0 (fun _ => true) true ts vs ds p → (∀ x ∈ p, x.block < W.heap.size) → DataW.TrodAll enc P W' 0 (fun b => decide (b < W.heap.size)) true ts vs ds p
  | [], [], [], _, _, h, _ => h
  | t :: ts, v :: vs, d :: ds, _, hr, h, hlt => by
    obtain ⟨p, q, h1, h2, rfl⟩ := h
    simp only [List.all_cons, Bool.and_eq_true, decide_eq_true_eq] at hr
    exact ⟨p, q, Below.trod hl hr.1.1 hr.1.2 h1 hb (fun x hx => hlt x (by simp [hx])), argsStay hl hb ts vs ds q hr.2 h2 (fun x hx => hlt x (by simp [hx])), rfl⟩
  | [], [], _ :: _, _, _, h, _ => h.elim
  | [], _ :: _, _, _, _, h, _ => h.elim
  | _ :: _, [], _, _, _, h, _ => h.elim
  | _ :: _, _ :: _, [], _, _, h, _ => h.elim
end Go.Proofs.YtinijohmdljieaaGreatDoor

namespace Go.Proofs.YtinijohmdljieaaGreatDoor
open Go.ChangeShapes Go.WideShapes Go.ChangeAt Go.RowKit Go.Deep

def StrOkR (_ : World) (cs : Nat → Value) (s : ByteArray) : Prop := cs 0 = .string s ∧ s.size ≤ maxLen
theorem okStrs {B : Nat} {w : World} {v : Value} {xs : List ByteArray} (h : Row 1 StrOkR B w v xs) : Strs B w v xs ∧ ∀ s ∈ xs, s.size ≤ maxLen := by
  obtain ⟨a, c, b, off, hv, hle, ha, hc⟩ := h.ex
  refine ⟨⟨a, c, b, off, hv, hle, ha, fun j x hj => ?_⟩, fun s hs => ?_⟩
  · obtain ⟨cs, h1, h2⟩ := hc j x hj
    exact ⟨cs, h1, h2.1⟩
  · obtain ⟨j, hj, rfl⟩ := List.mem_iff_getElem.1 hs
    obtain ⟨cs, h1, h2⟩ := hc j _ (List.getElem?_eq_getElem hj)
    exact h2.2

section
variable {H : Type} {enc : TypeId × Value → H} {P : Program} {w : World} {base : Nat} {spare : Nat → Bool} {held : Bool}
theorem elStrOk {e : TypeId} (he : P.underlying e = some .string)
    (n : Nat) (cs : List Value) (y : DataW H × List MemPlace) (hl : cs.length = 1) (h : DataW.trod enc P w base spare held n e cs = some y) : ∃ a : ByteArray, StrOkR w (fun i => cs.getD i undef) a := by
  obtain ⟨s, rfl, -, hs⟩ := DataW.trod_string he h
  exact ⟨s, rfl, hs⟩
theorem openStrs {t e : TypeId} (ht : P.underlying t = some (.slice e)) (he : P.underlying e = some .string) (hk : P.cellsOf e = 1)
    {n : Nat} {v : Value} {x : DataW H × List MemPlace} (h : DataW.trod enc P w base spare held n t [v] = some x) : ∃ xs : List ByteArray, Strs w.heap.size w v xs ∧ xs.length ≤ maxLen ∧ ∀ s ∈ xs, s.size ≤ maxLen := by
  obtain ⟨xs, h1, h2⟩ := openRow ht hk (by omega) (elStrOk he) h
  exact ⟨xs, (okStrs h1).1, h2, (okStrs h1).2⟩
end
end Go.Proofs.YtinijohmdljieaaGreatDoor

namespace Go.Proofs.YtinijohmdljieaaGreatDoor
open Go.ChangeShapes Go.WideShapes Go.ChangeAt Go.RowKit Go.Deep

theorem own : ownKnob Tryz.prog.godebug = none := by kernel_rfl
theorem laidOut : laidOutB Tryz.prog = true := by kernel_rfl

section
variable {H : Type} {enc : TypeId × Value → H} {P : Program} {w : World} {base : Nat} {spare : Nat → Bool} {held : Bool}
/-- a role -/
theorem elRole {e t s : TypeId} {f0 f1 f2 : Field} (he : P.underlying e = some (.struct #[f0, f1, f2])) (h0 : f0.offset = 0) (h1 : f1.offset = 1) (h2 : f2.offset = 2) (e0 : f0.type = s) (e1 : f1.type = t) (e2 : f2.type = t)
    (hs : P.underlying s = some .string) (ht : P.underlying t = some (.slice s)) (ks : P.cellsOf s = 1) (kt : P.cellsOf t = 1)
    (n : Nat) (cs : List Value) (y : DataW H × List MemPlace) (hl : cs.length = 3) (h : DataW.trod enc P w base spare held n e cs = some y) : ∃ r : Rl, RlR w.heap.size w (fun i => cs.getD i undef) r := by
  obtain ⟨y0, y1, y2, m, -, -, g0, g1, g2⟩ := trod_struct3 he h
  obtain ⟨c0, c1, c2, rfl⟩ : ∃ c0 c1 c2, cs = [c0, c1, c2] := by
    match cs, hl with
    | [c0, c1, c2], _ => exact ⟨c0, c1, c2, rfl⟩
  rw [h0, e0, ks] at g0
  rw [h1, e1, kt] at g1
  rw [h2, e2, kt] at g2
  obtain ⟨s0, z0, -, hz0⟩ := DataW.trod_string hs g0
  obtain ⟨xs1, k1, l1, o1⟩ := openStrs ht hs ks g1
  obtain ⟨xs2, k2, l2, o2⟩ := openStrs ht hs ks g2
  obtain ⟨a1, n1, b1, f1, r1, -⟩ := k1.cells
  obtain ⟨a2, n2, b2, f2, r2, -⟩ := k2.cells
  simp at z0
  subst z0 r1 r2
  exact ⟨⟨s0, a1, n1, a2, n2, xs1, xs2⟩, rfl, rfl, rfl, k1, k2, ⟨hz0, o1, o2, l1, l2⟩⟩
end

/-- the variables that the rows list -/
abbrev stLaid : List (String × DataW Unit) := [("unicode/utf8.acceptRanges", Rows.laid_unicode_utf8_acceptRanges), ("unicode/utf8.first", Rows.laid_unicode_utf8_first)]
/-- the settled world, the listed variables laid -/
noncomputable def laidWorld (os : Os) : World := World.laidAll Tryz.prog os stLaid
theorem laidWorld_os (os : Os) : (laidWorld os).os = os := World.laidAll_os _ _ _
theorem laidWorld_met (os : Os) (args : Array Value) : laidMet Tryz.prog stLaid ((laidWorld os).forCall (fun _ _ => 0) ⟨#[], args, []⟩).memory :=
  laidMet_laidAll args (by kernel_rfl) (by kernel_rfl)

/-- No parameter wants a stand-in; the program's own looks are off: what the cards ask. -/
theorem plain_of {b : Bool} (name : String) (k : Nat) (fk : Func) (ts : Array TypeId) (h1 : Tryz.prog.funcNamed name = some k) (h2 : Tryz.prog.funcs[k]? = some fk) (h3 : fk.params = ts) (h4 : ts.toList.all (fun t => !Tryz.prog.wantsStandIn t) = true)
    (h5 : b = Tryz.pinned.checked.prog.looks []) (f : FuncId) (fn : Func) (hf : Tryz.pinned.checked.prog.funcNamed name = some f) (hfn : Tryz.pinned.checked.prog.funcs[f]? = some fn) :
    b = Tryz.pinned.checked.prog.looks [] ∧ ∀ (j : Nat) t, fn.params[j]? = some t → Tryz.pinned.checked.prog.wantsStandIn t = false := by
  obtain rfl : f = k := (Option.some.inj (h1.symm.trans hf)).symm
  obtain rfl : fn = fk := (Option.some.inj (h2.symm.trans hfn)).symm
  refine ⟨h5, fun j t ht => ?_⟩
  rw [h3] at ht
  have hm : t ∈ ts.toList := Array.mem_toList_iff.2 (Array.mem_of_getElem? ht)
  have h6 : Tryz.prog.wantsStandIn t = false := by simpa using List.all_eq_true.1 h4 t hm
  exact h6
end Go.Proofs.YtinijohmdljieaaGreatDoor
