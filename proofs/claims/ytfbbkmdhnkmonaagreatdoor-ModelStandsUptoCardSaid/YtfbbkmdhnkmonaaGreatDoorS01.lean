/- Small lemmas that every text of this claim may use. From the reading of a law's arguments to what they are, and from the walk back to the row. A world for the witness of the laws on tokens: the listed tables and errors as they are laid; what the walks on guards lean on. Slices that a call itself makes and appends to. -/
import Derived.WalkKit
import Derived.WalkLawsBesides
import Derived.WalkSpells
import Derived.Lib.Hide
import Derived.Deep.QuietTactic
import Derived.BigQuiet
import Derived.ProofKit
import Derived.OpenShut
import Derived.Carry
import Derived.Deep.Slices
import Derived.Deep.Strs
import Derived.Deep.DeepHandedRow
import Derived.Lib.LaidTab
import Derived.Lay
import Derived.LaidLaws
import Derived.Stop.LaidErr
import Derived.Test.YtfbbkmdhnkmonaaGreatDoorCards
import Derived.Test.YtfbbkmdhnkmonaaGreatDoorTie
import Derived.Test.YtfbbkmdhnkmonaaGreatDoorShelf
import Derived.OwnWalk
import Derived.WalkSmall
import Derived.Laws.MakeOwn
namespace Go.Proofs.YtfbbkmdhnkmonaaGreatDoor
open Go.RowKit

theorem ret_bool {a b : Bool} (h : a = b) : Ending.returned (.bool a) = Ending.returned (.bool b) := by rw [h]
theorem ret_int {k : IntKind} {a b : Int} (h : a = b) : Ending.returned (.int k a) = Ending.returned (.int k b) := by rw [h]
theorem ba_len (s : ByteArray) : s.data.toList.length = s.size := rfl
theorem ba_empty (s : ByteArray) : s.toList.isEmpty = s.data.toList.isEmpty := by rw [Go.ByteArray.toList_eq]
theorem ba_eq (a b : ByteArray) : (a.toList == b.toList) = decide (a = b) := by
  rw [Go.ByteArray.toList_eq, Go.ByteArray.toList_eq, Bool.eq_iff_iff]
  simp only [beq_iff_eq, decide_eq_true_eq]
  constructor
  · intro h; cases a; cases b; simp_all
  · rintro rfl; rfl
theorem take_snoc (s : ByteArray) (k : Nat) (h : k < s.size) : s.data.toList.take (k + 1) = s.data.toList.take k ++ [s[k]] := by
  rw [List.take_succ_eq_append_getElem (by simpa using h)]; rfl
theorem all_snoc {p : UInt8 → Bool} {s : ByteArray} {k : Nat} (h : k < s.size) (h0 : (s.data.toList.take k).all p = true) (h1 : p s[k] = true) : (s.data.toList.take (k+1)).all p = true := by
  rw [take_snoc s k h, List.all_append, h0]; simp [h1]
theorem all_no {p : UInt8 → Bool} {s : ByteArray} {k : Nat} (h : k < s.size) (h1 : p s[k] = false) : s.data.toList.all p = false := by
  rw [List.all_eq_false]; exact ⟨s[k], by simp [ByteArray.getElem_eq_getElem_data], by simp [h1]⟩
theorem all_end {p : UInt8 → Bool} {s : ByteArray} {k : Nat} (h : ¬ k < s.size) (h0 : (s.data.toList.take k).all p = true) : s.data.toList.all p = true := by
  rwa [List.take_of_length_le (by rw [ba_len]; omega)] at h0

/-- cells and marks below stay -/
theorem bcell {W w1 : World} (hb : Below W.heap.size W w1) : (∀ b o, b < W.heap.size → w1.cell? ⟨b, o, none⟩ = W.cell? ⟨b, o, none⟩) ∧ (∀ b o, b < W.heap.size → w1.frozen? ⟨b, o, none⟩ = W.frozen? ⟨b, o, none⟩) :=
  ⟨fun b o h => hb.cell (p := ⟨b, o, none⟩) h, fun b o h => hb.frozen (p := ⟨b, o, none⟩) h⟩
theorem below_drewN {B : Nat} {a w : World} (h : Below B a w) (n : Nat) : Below B a (w.drewN n) := ⟨h.os, h.tape, h.output, h.size, h.block⟩

/-- a quiet call in a world that has drawn already -/
theorem q_same {P : Program} {f : FuncId} {args : Array Value} {w : World} {a n : Nat} {v : Value}
    (h : Calls P f args (w.drewN (a + n)) fun e w' => e = .returned v ∧ w' = w.drewN (a + n)) :
    Calls P f args (w.drewN (a + n)) fun e w'' => e = .returned v ∧ ∃ m, w'' = w.drewN (a + m) :=
  h.mono fun _ _ ⟨he, hm⟩ => ⟨he, n, hm⟩
theorem q_left {P : Program} {f : FuncId} {args : Array Value} {w : World} {a n : Nat} {v : Value}
    (h : Calls P f args (w.drewN (a + n)) fun e w' => e = .returned v ∧ w.drewN (a + n) = w') :
    Calls P f args (w.drewN (a + n)) fun e w'' => e = .returned v ∧ ∃ m, w'' = w.drewN (a + m) :=
  h.mono fun _ _ ⟨he, hm⟩ => ⟨he, n, hm.symm⟩

/-! A slice whose elements have k cells each: R says what the cells of one element are. -/
structure Row {α : Type} (k : Nat) (R : World → (Nat → Value) → α → Prop) (B : Nat) (w : World) (v : Value) (xs : List α) : Prop where
  ex : ∃ (a : Option Addr) (c b off : Nat), v = .slice a xs.length c ∧ xs.length ≤ c ∧ (0 < xs.length → a = some ⟨b, off, none⟩ ∧ b < B) ∧
    ∀ j x, xs[j]? = some x → ∃ cs : Nat → Value, (∀ i, i < k → w.cell? ⟨b, off + j * k + i, none⟩ = some (cs i)) ∧ R w cs x

theorem Row.below {α : Type} {k : Nat} {R : World → (Nat → Value) → α → Prop} {B : Nat} {w w' : World} {v : Value} {xs : List α} (h : Row k R B w v xs) (hb : Below B w w')
    (hR : ∀ cs x, x ∈ xs → R w cs x → R w' cs x) : Row k R B w' v xs := by
  obtain ⟨a, c, b, off, hv, hle, ha, hc⟩ := h.ex
  refine ⟨a, c, b, off, hv, hle, ha, fun j x hj => ?_⟩
  obtain ⟨cs, h1, h2⟩ := hc j x hj
  have hl : j < xs.length := by
    rcases Nat.lt_or_ge j xs.length with h | h
    · exact h
    · rw [List.getElem?_eq_none h] at hj; cases hj
  exact ⟨cs, fun i hi => by rw [hb.cell (p := ⟨b, off + j * k + i, none⟩) (ha (by omega)).2]; exact h1 i hi, hR _ _ (List.mem_of_getElem? hj) h2⟩

theorem Row.mono {α : Type} {k : Nat} {R : World → (Nat → Value) → α → Prop} {B B' : Nat} {w : World} {v : Value} {xs : List α} (h : Row k R B w v xs) (hB : B ≤ B') : Row k R B' w v xs := by
  obtain ⟨a, c, b, off, hv, hle, ha, hc⟩ := h.ex
  exact ⟨a, c, b, off, hv, hle, fun h => ⟨(ha h).1, Nat.lt_of_lt_of_le (ha h).2 hB⟩, hc⟩

def StrR (_ : World) (cs : Nat → Value) (s : ByteArray) : Prop := cs 0 = .string s
abbrev Strs (B : Nat) (w : World) (v : Value) (xs : List ByteArray) : Prop := Row 1 StrR B w v xs
def Str2R (_ : World) (cs : Nat → Value) (s : ByteArray × ByteArray) : Prop := cs 0 = .string s.1 ∧ cs 1 = .string s.2
abbrev Str2s (B : Nat) (w : World) (v : Value) (xs : List (ByteArray × ByteArray)) : Prop := Row 2 Str2R B w v xs

theorem Strs.below {B : Nat} {w w' : World} {v : Value} {xs : List ByteArray} (h : Strs B w v xs) (hb : Below B w w') : Strs B w' v xs := Row.below h hb fun _ _ _ h => h
theorem Str2s.below {B : Nat} {w w' : World} {v : Value} {xs : List (ByteArray × ByteArray)} (h : Str2s B w v xs) (hb : Below B w w') : Str2s B w' v xs := Row.below h hb fun _ _ _ h => h

/-- the cells of a slice of pairs of strings, written out -/
theorem Str2s.cells {B : Nat} {w : World} {v : Value} {xs : List (ByteArray × ByteArray)} (h : Str2s B w v xs) : ∃ (a : Option Addr) (c b off : Nat), v = .slice a xs.length c ∧ xs.length ≤ c ∧
    (0 < xs.length → a = some ⟨b, off, none⟩ ∧ b < B) ∧ ∀ j (hj : j < xs.length), w.cell? ⟨b, off + j * 2, none⟩ = some (.string xs[j].1) ∧ w.cell? ⟨b, off + j * 2 + 1, none⟩ = some (.string xs[j].2) := by
  obtain ⟨a, c, b, off, hv, hle, ha, hc⟩ := h.ex
  refine ⟨a, c, b, off, hv, hle, ha, fun j hj => ?_⟩
  obtain ⟨cs, h1, h2, h3⟩ := hc j _ (List.getElem?_eq_getElem hj)
  exact ⟨by rw [← h2]; exact h1 0 (by omega), by rw [← h3]; exact h1 1 (by omega)⟩
theorem Strs.cells {B : Nat} {w : World} {v : Value} {xs : List ByteArray} (h : Strs B w v xs) : ∃ (a : Option Addr) (c b off : Nat), v = .slice a xs.length c ∧ xs.length ≤ c ∧
    (0 < xs.length → a = some ⟨b, off, none⟩ ∧ b < B) ∧ ∀ j (hj : j < xs.length), w.cell? ⟨b, off + j, none⟩ = some (.string xs[j]) := by
  obtain ⟨a, c, b, off, hv, hle, ha, hc⟩ := h.ex
  refine ⟨a, c, b, off, hv, hle, ha, fun j hj => ?_⟩
  obtain ⟨cs, h1, h2⟩ := hc j _ (List.getElem?_eq_getElem hj)
  have := h1 0 (by omega)
  rw [h2] at this
  simpa using this
end Go.Proofs.YtfbbkmdhnkmonaaGreatDoor

namespace Go.Proofs.YtfbbkmdhnkmonaaGreatDoor
open Go.ChangeShapes Go.WideShapes Go.ChangeAt Go.RowKit Go.Deep

section
variable {H : Type} {enc : TypeId × Value → H} {P : Program} {w : World} {base : Nat} {spare : Nat → Bool} {held : Bool}

theorem spot_none {w : World} {a : Addr} {v : Value} (h : w.cell? a = some v) : a = ⟨a.block, a.off, none⟩ := by
  obtain ⟨b, o, s⟩ := a
  cases s with
  | none => rfl
  | some s =>
    unfold World.cell? at h
    split at h
    · simp at h
    · cases h

/-- a slice opened: R is what the cells of an element are. -/
theorem openRow {α : Type} {t e : TypeId} {k : Nat} (ht : P.underlying t = some (.slice e)) (hk : P.cellsOf e = k) (hk0 : 0 < k) {R : World → (Nat → Value) → α → Prop}
    (hel : ∀ n cs y, cs.length = k → DataW.trod enc P w base spare held n e cs = some y → ∃ a : α, R w (fun i => cs.getD i undef) a)
    {n : Nat} {v : Value} {x : DataW H × List MemPlace} (h : DataW.trod enc P w base spare held n t [v] = some x) : ∃ xs : List α, Row k R w.heap.size w v xs ∧ xs.length ≤ maxLen := by
  rcases open_slice ht h with ⟨hcs, hx⟩ | ⟨a, len, cap, m, n', D, Pl, hcs, hb, hl, hm, hmm, hx, hi⟩
  · injection hcs with hcs
    exact ⟨[], ⟨none, 0, 0, 0, by simpa using hcs, by simp, by simp, by simp⟩, by simp⟩
  · injection hcs with hcs
    have hlm : len ≤ m := by rw [hmm]; split <;> omega
    have hsp : 0 < len → a = ⟨a.block, a.off, none⟩ ∧ a.block < w.heap.size := by
      intro hj
      obtain ⟨cs, h1, h2⟩ := hi 0 (by omega)
      rw [hk] at h1
      have hbl := World.cells?_block h1 hk0
      obtain ⟨h3, h4, h5⟩ := World.cells?_some h1
      have := h5 0 hk0
      simp only [Nat.zero_mul, Addr.add_zero'] at this hbl
      rw [List.getElem?_eq_getElem (by omega)] at this
      exact ⟨spot_none this, hbl⟩
    have each : ∀ j, j < len → ∃ a' : α, ∃ cs : List Value, (∀ i, i < k → w.cell? ⟨a.block, a.off + j * k + i, none⟩ = some (cs.getD i undef)) ∧ R w (fun i => cs.getD i undef) a' := by
      intro j hj
      obtain ⟨cs, h1, h2⟩ := hi j (by omega)
      rw [hk] at h1
      obtain ⟨h3, h4, h5⟩ := World.cells?_some h1
      obtain ⟨a', ha'⟩ := hel _ _ _ h4 h2
      refine ⟨a', cs, fun i hik => ?_, ha'⟩
      have := h5 i hik
      rw [(hsp (by omega)).1, Addr.add_lit, Addr.add_lit, List.getElem?_eq_getElem (by omega)] at this
      rw [List.getD_eq_getElem?_getD, List.getElem?_eq_getElem (by omega)]
      exact this
    by_cases h0 : 0 < len
    · obtain ⟨a0, -⟩ := each 0 h0
      have : Inhabited α := ⟨a0⟩
      obtain ⟨f, hf⟩ := choose_lt each
      refine ⟨(List.range len).map f, ⟨some a, cap, a.block, a.off, by simpa using hcs, by simpa using hl, fun _ => ⟨congrArg some (hsp h0).1, (hsp h0).2⟩, fun j y hj => ?_⟩, by simp; omega⟩
      have hjl : j < len := by
        rcases Nat.lt_or_ge j len with h | h
        · exact h
        · rw [List.getElem?_eq_none (by simpa using h)] at hj; cases hj
      have : y = f j := by simp [List.getElem?_map, List.getElem?_range hjl] at hj; exact hj.symm
      obtain ⟨cs, h1, h2⟩ := hf j hjl
      exact ⟨fun i => cs.getD i undef, h1, this ▸ h2⟩
    · obtain rfl : len = 0 := by omega
      exact ⟨[], ⟨some a, cap, 0, 0, by simpa using hcs, by simp, by simp, by simp⟩, by simp⟩

/-- a struct, or an array, of two strings -/
theorem elStr2 {e : TypeId} {f0 f1 : Field} (he : P.underlying e = some (.struct #[f0, f1])) (h0 : f0.offset = 0) (h1 : f1.offset = 1) (t0 : P.underlying f0.type = some .string) (t1 : P.underlying f1.type = some .string)
    (k0 : P.cellsOf f0.type = 1) (k1 : P.cellsOf f1.type = 1)
    (n : Nat) (cs : List Value) (y : DataW H × List MemPlace) (hl : cs.length = 2) (h : DataW.trod enc P w base spare held n e cs = some y) : ∃ a : ByteArray × ByteArray, Str2R w (fun i => cs.getD i undef) a := by
  obtain ⟨y0, y1, m, -, -, g0, g1⟩ := trod_struct2 he h
  obtain ⟨c0, c1, rfl⟩ : ∃ c0 c1, cs = [c0, c1] := by
    match cs, hl with
    | [c0, c1], _ => exact ⟨c0, c1, rfl⟩
  rw [h0, k0] at g0
  rw [h1, k1] at g1
  obtain ⟨s0, e0, -⟩ := DataW.trod_string t0 g0
  obtain ⟨s1, e1, -⟩ := DataW.trod_string t1 g1
  simp at e0 e1
  exact ⟨(s0, s1), by simp [e0], by simp [e1]⟩
theorem elArr2 {e s : TypeId} (he : P.underlying e = some (.array 2 s)) (hs : P.underlying s = some .string) (k : P.cellsOf s = 1)
    (n : Nat) (cs : List Value) (y : DataW H × List MemPlace) (hl : cs.length = 2) (h : DataW.trod enc P w base spare held n e cs = some y) : ∃ a : ByteArray × ByteArray, Str2R w (fun i => cs.getD i undef) a := by
  obtain ⟨xs, m, -, -, -, hxl, hi⟩ := DataW.trod_array he h
  obtain ⟨c0, c1, rfl⟩ : ∃ c0 c1, cs = [c0, c1] := by
    match cs, hl with
    | [c0, c1], _ => exact ⟨c0, c1, rfl⟩
  have g0 := hi 0 (by omega)
  have g1 := hi 1 (by omega)
  rw [k, List.getElem?_eq_getElem (by omega)] at g0 g1
  obtain ⟨s0, e0, -⟩ := DataW.trod_string hs g0
  obtain ⟨s1, e1, -⟩ := DataW.trod_string hs g1
  simp at e0 e1
  exact ⟨(s0, s1), by simp [e0], by simp [e1]⟩
theorem elStr {e : TypeId} (he : P.underlying e = some .string)
    (n : Nat) (cs : List Value) (y : DataW H × List MemPlace) (hl : cs.length = 1) (h : DataW.trod enc P w base spare held n e cs = some y) : ∃ a : ByteArray, StrR w (fun i => cs.getD i undef) a := by
  obtain ⟨s, rfl, -⟩ := DataW.trod_string he h
  exact ⟨s, rfl⟩
end

/-- every argument reads behind the call as it did -/
theorem argsStay {H : Type} {enc : TypeId × Value → H} {P : Program} {W W' : World} (hl : laidOutB P = true) (hb : Below W.heap.size W W') :
    ∀ (ts : List TypeId) (vs : List Value) (ds : List (DataW H)) (p : List MemPlace), ts.all (fun t => P.readableRec t && decide (t < P.types.size)) = true →
      DataW.TrodAll enc P W 0 (fun _ => true) true ts vs ds p → (∀ x ∈ p, x.block < W.heap.size) → DataW.TrodAll enc P W' 0 (fun b => decide (b < W.heap.size)) true ts vs ds p
  | [], [], [], _, _, h, _ => h
  | t :: ts, v :: vs, d :: ds, _, hr, h, hlt => by
    obtain ⟨p, q, h1, h2, rfl⟩ := h
    simp only [List.all_cons, Bool.and_eq_true, decide_eq_true_eq] at hr
    exact ⟨p, q, Below.trod hl hr.1.1 hr.1.2 h1 hb (fun x hx => hlt x (by simp [hx])), argsStay hl hb ts vs ds q hr.2 h2 (fun x hx => hlt x (by simp [hx])), rfl⟩
  | [], [], _ :: _, _, _, h, _ => h.elim
  | [], _ :: _, _, _, _, h, _ => h.elim
  | _ :: _, [], _, _, _, h, _ => h.elim
  | _ :: _, _ :: _, [], _, _, h, _ => h.elim
end Go.Proofs.YtfbbkmdhnkmonaaGreatDoor

namespace Go.Proofs.YtfbbkmdhnkmonaaGreatDoor
open Go.ChangeShapes Go.WideShapes Go.ChangeAt Go.RowKit

theorem own : ownKnob Tryz.prog.godebug = none := by kernel_rfl
theorem laidOut : laidOutB Tryz.prog = true := by kernel_rfl

/-- the variables that the rows list -/
abbrev tokLaid : List (String × DataW Unit) := [("math/bits.deBruijn32tab", Rows.laid_math_bits_deBruijn32tab), ("math/bits.deBruijn64tab", Rows.laid_math_bits_deBruijn64tab), ("internal/strconv.uint64pow10", Rows.laid_internal_strconv_uint64pow10), ("unicode/utf8.acceptRanges", Rows.laid_unicode_utf8_acceptRanges), ("strconv.ErrRange", Rows.laid_strconv_ErrRange), ("strconv.ErrSyntax", Rows.laid_strconv_ErrSyntax), ("unicode/utf8.first", Rows.laid_unicode_utf8_first)]
theorem star_error : "*" ++ "errors.errorString" = "*errors.errorString" := by decide
theorem row_error (u : TypeId) (h : Tryz.prog.typeName? 3 u = some "*errors.errorString") : u = 253 :=
  typeName_ptr_named (nm := "errors.errorString") (by rw [star_error]; kernel_rfl) (by kernel_rfl) (by decide) u (by rw [star_error]; exact h)
theorem errRange_of {W : World} (hL : laidMet Tryz.prog tokLaid W) : ∃ t p, W.cell? ⟨2, 0, none⟩ = some (.iface t p) := by
  have h3 : laidMet Tryz.prog (("internal/strconv.uint64pow10", Rows.laid_internal_strconv_uint64pow10) :: [("unicode/utf8.acceptRanges", Rows.laid_unicode_utf8_acceptRanges), ("strconv.ErrRange", Rows.laid_strconv_ErrRange), ("strconv.ErrSyntax", Rows.laid_strconv_ErrSyntax), ("unicode/utf8.first", Rows.laid_unicode_utf8_first)]) W := hL.tail.tail
  have h5 := h3.tail.tail
  obtain ⟨a, s, hv, -, -, -⟩ := laid_sentinel (g := 2) (ti := 174) (tp := 253) (te := 255) (ts := 9) h5 (by kernel_rfl) (by kernel_rfl) Tryz.underlying174 row_error Tryz.underlying253 Tryz.underlying255 rfl rfl Tryz.underlying9 (by kernel_rfl) (by kernel_rfl)
  have c1 := World.var?_cell (show Tryz.prog.globalNamed "strconv.ErrRange" = some 2 by kernel_rfl) hv 0
  exact ⟨_, _, by simpa using c1⟩

theorem tab_of {W : World} (hL : laidMet Tryz.prog tokLaid W) : Lib.TabIs Tryz.prog W "internal/strconv.uint64pow10" .u64 Lib.pow10Tab := by
  have h3 : laidMet Tryz.prog (("internal/strconv.uint64pow10", Lib.tabData .u64 Lib.pow10Tab) :: [("unicode/utf8.acceptRanges", Rows.laid_unicode_utf8_acceptRanges), ("strconv.ErrRange", Rows.laid_strconv_ErrRange), ("strconv.ErrSyntax", Rows.laid_strconv_ErrSyntax), ("unicode/utf8.first", Rows.laid_unicode_utf8_first)]) W := hL.tail.tail
  exact Lib.tabIs_of_head (show Tryz.prog.globalNamed "internal/strconv.uint64pow10" = some 5 by kernel_rfl) (by kernel_rfl) Tryz.underlying264 Tryz.underlying169 (by kernel_rfl) (by kernel_rfl) h3

/-- the settled world, the listed variables laid -/
noncomputable def laidWorld (os : Os) : World := World.laidAll Tryz.prog os tokLaid
theorem laidWorld_os (os : Os) : (laidWorld os).os = os := World.laidAll_os _ _ _
theorem laidWorld_met (os : Os) (args : Array Value) : laidMet Tryz.prog tokLaid ((laidWorld os).forCall (fun _ _ => 0) ⟨#[], args, []⟩).memory :=
  laidMet_laidAll args (by kernel_rfl) (by kernel_rfl)

/-- No parameter wants a stand-in; the program's own looks are off: what the cards ask. -/
theorem plain_of {b : Bool} (name : String) (k : Nat) (fk : Func) (ts : Array TypeId) (h1 : Tryz.prog.funcNamed name = some k) (h2 : Tryz.prog.funcs[k]? = some fk) (h3 : fk.params = ts) (h4 : ts.toList.all (fun t => !Tryz.prog.wantsStandIn t) = true)
    (h5 : b = Tryz.pinned.checked.prog.looks []) (f : FuncId) (fn : Func) (hf : Tryz.pinned.checked.prog.funcNamed name = some f) (hfn : Tryz.pinned.checked.prog.funcs[f]? = some fn) :
    b = Tryz.pinned.checked.prog.looks [] ∧ ∀ (j : Nat) t, fn.params[j]? = some t → Tryz.pinned.checked.prog.wantsStandIn t = false := by
  obtain rfl : f = k := (Option.some.inj (h1.symm.trans hf)).symm
  obtain rfl : fn = fk := (Option.some.inj (h2.symm.trans hfn)).symm
  refine ⟨h5, fun j t ht => ?_⟩
  rw [h3] at ht
  have hm : t ∈ ts.toList := Array.mem_toList_iff.2 (Array.mem_of_getElem? ht)
  have h6 : Tryz.prog.wantsStandIn t = false := by simpa using List.all_eq_true.1 h4 t hm
  exact h6
end Go.Proofs.YtfbbkmdhnkmonaaGreatDoor

namespace Go.Proofs.YtfbbkmdhnkmonaaGreatDoor
open Go.RowKit

/-- the row of the type's table -/
structure Elem (P : Program) (T E : TypeId) (k bytes : Nat) : Prop where
  sl : P.underlying T = some (.slice E)
  info : ∃ z : Value, (P.info? E).map (fun i => (i.zero, i.size, i.bytes)) = some (some z, k, bytes) ∧ z.cells.size = k
  pos : 0 < k
  size : ∀ w, (sizeOf E).run P w = .ok k w

structure Own (w : World) (base : Nat) (E : TypeId) (k : Nat) (va : Option Addr) (vc n : Nat) (cells : List Value) : Prop where
  row : w.ownsRow base E k (.slice va n vc) n cells

section
variable {P : Program} {T E : TypeId} {k bytes : Nat} {w w' : World} {base vc n : Nat} {va : Option Addr} {cells : List Value}

theorem Own.nil (w : World) (base : Nat) (E : TypeId) (k : Nat) : Own w base E k none 0 0 [] := ⟨by simp, .inl ⟨rfl, rfl⟩⟩
theorem Own.length (h : Own w base E k va vc n cells) : cells.length = n * k := h.row.1
theorem Own.cap (h : Own w base E k va vc n cells) : n ≤ vc ∧ vc ≤ maxLen := by
  rcases h.row.2 with ⟨h1, rfl⟩ | ⟨g, cap, cur, h1, _, _, h2, h3, _⟩
  · cases h1; exact ⟨Nat.le_refl _, by simp⟩
  · cases h1; exact ⟨h2, h3⟩
theorem Own.block (h : Own w base E k va vc n cells) : (va = none ∧ n = 0 ∧ vc = 0) ∨ ∃ g, va = some ⟨g, 0, none⟩ ∧ base ≤ g ∧ g < w.heap.size ∧ ∃ cur, w.heap[g]? = some (.cells cur E (0, 0)) ∧ n * k ≤ cur.size ∧ cur.size = vc * k ∧ cur.toList.take (n * k) = cells := by
  rcases h.row.2 with ⟨h1, rfl⟩ | ⟨g, cap, cur, h1, h2, h3, h4, h5, h6, h7⟩
  · cases h1; exact .inl ⟨rfl, rfl, rfl⟩
  · cases h1
    exact .inr ⟨g, rfl, h2, (Array.getElem?_eq_some_iff.1 h3).1, cur, h3, by rw [h6]; exact Nat.mul_le_mul_right _ h4, h6, h7⟩
/-- the cells of an own slice -/
theorem Own.cell (h : Own w base E k va vc n cells) (hk : 0 < n * k) : ∃ g, va = some ⟨g, 0, none⟩ ∧ base ≤ g ∧ g < w.heap.size ∧ (∀ j u, cells[j]? = some u → w.cell? ⟨g, j, none⟩ = some u) ∧ ∀ j, w.frozen? ⟨g, j, none⟩ = false := by
  rcases h.block with ⟨_, rfl, _⟩ | ⟨g, rfl, h1, h2, cur, h3, h4, _, h5⟩
  · simp at hk
  · refine ⟨g, rfl, h1, h2, fun j u hj => ?_, fun j => ?_⟩
    · rw [← h5, List.getElem?_take] at hj
      split at hj
      · simp only [World.cell?, h3]
        simpa using hj
      · cases hj
    · simp [World.frozen?, h3]
theorem Own.keptB (h : Own w base E k va vc n cells) (hh : ∀ g, va = some ⟨g, 0, none⟩ → w'.heap[g]? = w.heap[g]?) : Own w' base E k va vc n cells := by
  refine ⟨h.row.1, ?_⟩
  rcases h.row.2 with h1 | ⟨g, cap, cur, h1, h2, h3, h4⟩
  · exact .inl h1
  · cases h1
    exact .inr ⟨g, vc, cur, rfl, h2, (hh g rfl).trans h3, h4⟩
theorem Own.lt (h : Own w base E k va vc n cells) {g : Nat} (hg : va = some ⟨g, 0, none⟩) : base ≤ g ∧ g < w.heap.size := by
  rcases h.block with ⟨h1, _⟩ | ⟨g', h1, h2, h3, _⟩
  · rw [h1] at hg; cases hg
  · rw [h1] at hg; cases hg; exact ⟨h2, h3⟩
theorem Own.alloc (h : Own w base E k va vc n cells) (o : Obj) : Own (w.alloc o) base E k va vc n cells := h.keptB fun g hg => Below.heap_alloc w o g (h.lt hg).2
theorem Own.drew (h : Own w base E k va vc n cells) : Own w.drew base E k va vc n cells := h.keptB fun _ _ => rfl
theorem Own.drewN (h : Own w base E k va vc n cells) (q : Nat) : Own (w.drewN q) base E k va vc n cells := h.keptB fun _ _ => rfl
theorem Own.below {B : Nat} (h : Own w base E k va vc n cells) (hb : Below B w w') (hB : w.heap.size ≤ B) : Own w' base E k va vc n cells := h.keptB fun g hg => hb.block g (Nat.lt_of_lt_of_le (h.lt hg).2 hB)
theorem Own.setCell (h : Own w base E k va vc n cells) {a : Addr} (hne : ∀ g, va = some ⟨g, 0, none⟩ → g ≠ a.block) (u : Value) : Own (w.setCell a u) base E k va vc n cells := h.keptB fun g hg => Below.heap_setCell w a u g (hne g hg)
theorem Own.grown {row : Option Nat} (h : Own w base E k va vc n cells) (hg : w.grownBy w' row) (hne : ∀ g, va = some ⟨g, 0, none⟩ → some g ≠ row) : Own w' base E k va vc n cells := h.keptB fun g hg' => hg.block g (h.lt hg').2 (hne g hg')
theorem Own.base_le (h : Own w base E k va vc n cells) {b2 : Nat} (hb : b2 ≤ base) : Own w b2 E k va vc n cells := by
  refine ⟨h.row.1, ?_⟩
  rcases h.row.2 with h1 | ⟨g, cap, cur, h1, h2, h3⟩
  · exact .inl h1
  · exact .inr ⟨g, cap, cur, h1, Nat.le_trans hb h2, h3⟩

/-- 's = s[:len(s)-1]' -/
theorem Own.pop {xs last : List Value} (hx : xs.length = n * k) (h : Own w base E k va vc (n + 1) (xs ++ last)) : Own w base E k va vc n xs := by
  rcases h.block with ⟨_, h0, _⟩ | ⟨g, rfl, _⟩
  · omega
  · exact ⟨ownsRow_pop hx h.row⟩

def blockOf : Option Addr → Option Nat
  | some a => some a.block
  | none => none

theorem run_append_zero (hE : Elem P T E k bytes) (w : World) (ty : TypeId) (a a2 : Option Addr) (c c2 : Nat) (hn : n ≤ c) :
    (Builtin.append_ #[T, T] ty #[.slice a n c, .slice a2 0 c2]).run P w = .ok (.slice a n c) w := by
  have h1 := hE.sl
  have h2 := hE.size w
  cases a <;> cases a2 <;> simp [Builtin.append_, run_underlying h1, h2, Result.andThen, Builtin.lenOf, Builtin.firstCells, hn, loadCells, loadCellsFrom, storeCells]

/-- 's = append(s, x...)' -/
theorem Own.app (hE : Elem P T E k bytes) (ty : TypeId) (h : Own w base E k va vc n cells) (hbase : base ≤ w.heap.size)
    (a : Option Addr) (m c b off : Nat) (news : List Value) (hl : news.length = m * k) (ha : 0 < m → a = some ⟨b, off, none⟩) (hnews : ∀ j u, news[j]? = some u → w.cell? ⟨b, off + j, none⟩ = some u) (h1 : ∀ u ∈ news, u.oneCell' = true)
    (h63 : n + m ≤ maxLen) (hbytes : (n + m) * bytes ≤ 140737488355328) :
    ∃ va' vc' w', (Builtin.append_ #[T, T] ty #[.slice va n vc, .slice a m c]).run P w = .ok (.slice va' (n + m) vc') w' ∧ Own w' base E k va' vc' (n + m) (cells ++ news) ∧ w.grownBy w' (blockOf va) := by
  by_cases hm : 0 < m
  · obtain rfl := ha hm
    obtain ⟨z, hz, hzs⟩ := hE.info
    obtain ⟨i, hi, hz0, hz1, hz2⟩ := info_parts hz
    obtain ⟨v', w', hrun, hown, hg, -⟩ := run_append_own (P := P) w base T ty E i z k bytes hE.sl hi hz0 hz1 hz2 hzs hE.pos (.slice va n vc) n cells h.row ⟨b, off, none⟩ m c news hl (fun j u hj => by rw [Addr.add_lit]; exact hnews j u hj) h1 h63 hbytes hbase
    have hv : ∃ va' vc', v' = .slice va' (n + m) vc' := by
      rcases hown.2 with ⟨hv, h0⟩ | ⟨g, cap, _, hv, _⟩
      · exact ⟨none, 0, by rw [hv, h0]⟩
      · exact ⟨_, _, hv⟩
    obtain ⟨va', vc', rfl⟩ := hv
    refine ⟨va', vc', w', hrun, ⟨hown⟩, ?_⟩
    cases va <;> exact hg
  · obtain rfl : m = 0 := by omega
    have : news = [] := List.eq_nil_of_length_eq_zero (by simpa using hl)
    subst this
    exact ⟨va, vc, w, run_append_zero hE w ty va a vc c h.cap.1, by simpa using h, World.grownBy.refl _ _⟩

/-- 's[j] = u' -/
theorem Own.set {g j : Nat} (h : Own w base E k (some ⟨g, 0, none⟩) vc n cells) (u : Value) : Own (w.setCell ⟨g, j, none⟩ u) base E k (some ⟨g, 0, none⟩) vc n (cells.set j u) := by
  refine ⟨by simp [h.length], .inr ?_⟩
  rcases h.row.2 with ⟨h1, _⟩ | ⟨g', cap, cur, h1, h2, h3, h4, h5, h6, h7⟩
  · cases h1
  · cases h1
    refine ⟨g, vc, cur.setIfInBounds j u, rfl, h2, ?_, h4, h5, by simpa using h6, ?_⟩
    · simp only [World.setCell, Array.getElem?_modify, h3]
      simp
    · rw [← h7]
      simp [List.take_set]
/-- 'make([]T, n)' -/
theorem Own.make (hE : Elem P T E k bytes) (hb : base ≤ w.heap.size) (z : Value) (hz : (P.info? E).map (fun i => i.zero) = some (some z)) (hbytes : bytes * n ≤ 281474976710656) (hn : n ≤ maxLen) :
    ∃ w', (Instr.makeSlice T (.int .i64 n) (.int .i64 n)).run P w = .ok (.slice (some ⟨w.heap.size, 0, none⟩) n n) w' ∧ Own w' base E k (some ⟨w.heap.size, 0, none⟩) n n (madeCells z.cells (n * k)).toList ∧ w.grownBy w' none := by
  obtain ⟨z', hz1, hzs⟩ := hE.info
  obtain ⟨i, hi, hz0, hz1, hz2⟩ := info_parts hz1
  rw [hi] at hz
  simp at hz
  obtain ⟨w', hrun, r1, r2⟩ := run_make_full (P := P) w base T E i z k hE.sl hi hz hz1 .i64 .i64 n (by rw [hz2]; exact hbytes) hn hb
  exact ⟨w', hrun, ⟨r1⟩, r2⟩
end

/-- an append whose run is known -/
theorem wpList_append_run {P : Program} {w : World} {ops : Array Oper} {rest : List Oper} {o : Oper} {a : Act} {Q : Exit → Act → World → Prop} (hgd : o.guard = none) (s x : Operand) (t : TypeId)
    (ho : o.op = .call { callee := .builtin .append, args := #[s, x], argTypes := #[t, t] }) {v xv v' : Value} {w' : World} (hs : a.eval s = v) (hx : a.eval x = xv)
    (hr : (Builtin.append_ #[t, t] o.type #[v, xv]).run P w = .ok v' w') (h : wpList P ops Q rest (a.put o.dst v') w') : wpList P ops Q (o :: rest) a w :=
  wpList_plain hgd fun K hK => by
    unfold Oper.wp execOp
    simp only [ho, resolve, invoke, builtin, Sem.run_bind, Sem.run_pure, Result.andThen_ok, List.map_toArray, List.map_cons, List.map_nil, hs, hx, hr]
    exact hK _ _ h
/-- the same at a step of a region that draws its order -/
theorem step_append_run {P : Program} {w : World} {ops : Array Oper} {o : Oper} {a : Act} {K : Act → World → Prop} {Q : Exit → Act → World → Prop} {E : Prop} (hgd : o.guard = none) (s x : Operand) (t : TypeId)
    (ho : o.op = .call { callee := .builtin .append, args := #[s, x], argTypes := #[t, t] }) {v xv v' : Value} {w' : World} (hs : a.eval s = v) (hx : a.eval x = xv)
    (hr : (Builtin.append_ #[t, t] o.type #[v, xv]).run P w = .ok v' w') (h : K (a.put o.dst v') w') :
    if Region.wanted o (yielded ops a.tmps) = true then Oper.wp P o a w K Q else E := by
  have hw : Region.wanted o (yielded ops a.tmps) = true := by simp [Region.wanted, hgd]
  rw [if_pos hw]
  unfold Oper.wp execOp
  simp only [ho, resolve, invoke, builtin, Sem.run_bind, Sem.run_pure, Result.andThen_ok, List.map_toArray, List.map_cons, List.map_nil, hs, hx, hr]
  exact h
end Go.Proofs.YtfbbkmdhnkmonaaGreatDoor
