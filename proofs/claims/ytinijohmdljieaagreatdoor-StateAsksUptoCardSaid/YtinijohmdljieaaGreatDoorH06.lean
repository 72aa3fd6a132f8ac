/- The variables of the library that tokens lean on; strconv.Itoa, strconv.Atoi, strings.Split. A world for the witness of the laws on tokens: the listed tables and errors as they are laid; what the walks lean on, from the row's condition. Data of any shape, and how it lies in memory. slices.Clone of strings. -/
import Derived.Test.YtinijohmdljieaaGreatDoorH05
import Derived.Test.YtinijohmdljieaaGreatDoorShelf
import Derived.Lay
import Derived.LaidLaws
import Derived.Stop.LaidErr
import Derived.Test.YtinijohmdljieaaGreatDoorCards
import Derived.Test.YtinijohmdljieaaGreatDoorTie
import Derived.Test.YtinijohmdljieaaGreatDoorH01
namespace Go.Proofs.YtinijohmdljieaaGreatDoor
open Go.RowKit

/-- what the library's variables hold -/
structure TokW (w : World) : Prop where
  tab : Lib.TabIs Tryz.prog w "internal/strconv.uint64pow10" .u64 Lib.pow10Tab
  syn : ∃ t p, w.cell? ⟨0, 0, none⟩ = some (.iface t p)
  rng : ∃ t p, w.cell? ⟨1, 0, none⟩ = some (.iface t p)
  max : ∃ m, w.cell? ⟨2, 0, none⟩ = some (.int .i64 m)
theorem cellBelow {w w' : World} (hb : Below w.heap.size w w') {a : Addr} {v : Value} (hc : w.cell? a = some v) : w'.cell? a = some v := (hb.cell (World.block_lt_of_cell? w a hc)).trans hc
theorem pow10_var : Tryz.prog.globalNamed "internal/strconv.uint64pow10" = some 5 := by kernel_rfl
theorem TokW.below {w w' : World} (h : TokW w) (hb : Below w.heap.size w w') : TokW w' := by
  obtain ⟨h1, ⟨t2, p2, h2⟩, ⟨t3, p3, h3⟩, ⟨m, h4⟩⟩ := h
  refine ⟨?_, ⟨t2, p2, cellBelow hb h2⟩, ⟨t3, p3, cellBelow hb h3⟩, ⟨m, cellBelow hb h4⟩⟩
  unfold Lib.TabIs World.var? at h1 ⊢
  rw [pow10_var] at h1 ⊢
  simp only [Option.bind_some] at h1 ⊢
  have hlt : 5 < w.heap.size := by
    rcases Nat.lt_or_ge 5 w.heap.size with h' | h'
    · exact h'
    · rw [Array.getElem?_eq_none h'] at h1; cases h1
  rw [hb.block _ hlt]
  exact h1
theorem below_grow {B : Nat} {w w1 : World} (h : Below B w w1) (hB : B ≤ w1.heap.size) (os : Array Obj) : Below B w (Go.Sort.grow w1 os) :=
  ⟨h.os, h.tape, h.output, by rw [Go.Sort.size_grow]; have := h.size; omega, fun k hk => by
    rw [← h.block k hk]
    show (w1.heap ++ os)[k]? = w1.heap[k]?
    rw [Array.getElem?_append_left (by omega)]⟩

theorem itoa_walk (n : Int) (w : World) (h : TokW w) (h0 : 0 ≤ n) (h1 : n ≤ 9223372036854775807) :
    Calls Tryz.prog 125 #[.int .i64 n] w fun e w' => e = .returned (.string ⟨(Lib.decDigits n.toNat).toArray⟩) ∧ Below w.heap.size w w' := by
  refine (Tryz.strconv_Itoa n (by omega) h1 w h.tab).mono ?_
  rintro e w' ⟨rfl, k, os, rfl⟩
  obtain ⟨m, rfl⟩ : ∃ m : Nat, n = m := ⟨n.toNat, by omega⟩
  rw [Lib.itoa_nonneg m, Int.toNat_natCast]
  exact ⟨rfl, below_grow (below_drewN (Below.refl _ _) k) (Nat.le_refl _) os⟩
/-- what Atoi hands back -/
def AtoiEnd (s : ByteArray) (w : World) (e : Ending) (w' : World) : Prop :=
  ((∃ v, Lib.atoiAll s.data.toList = .ok v ∧ e = .returned (.tuple #[.int .i64 v, .nilIface])) ∨ ((∀ v, Lib.atoiAll s.data.toList ≠ .ok v) ∧ ∃ v t p, e = .returned (.tuple #[.int .i64 v, .iface t p]))) ∧ Below w.heap.size w w'
theorem atoi_walk (s : ByteArray) (w : World) (h : TokW w) (hs : s.size ≤ 1000000) : Calls Tryz.prog 77 #[.string s] w (AtoiEnd s w) := by
  rcases ha : Lib.atoiAll s.data.toList with v | _ | _
  · refine (Tryz.strconv_Atoi_ok s (by omega) v ha w).mono ?_
    rintro e w' ⟨rfl, hw⟩
    refine ⟨.inl ⟨v, ha, rfl⟩, ?_⟩
    rcases hw with rfl | ⟨t, rfl⟩
    · exact Below.refl _ _
    · exact ⟨by unfold Lib.bytesWorld World.freeze; split <;> rfl, by unfold Lib.bytesWorld World.freeze; split <;> rfl, by unfold Lib.bytesWorld World.freeze; split <;> rfl, by rw [Lib.bytesWorld_size]; omega, fun k hk => Lib.bytesWorld_at_old _ _ _ _ hk⟩
  · obtain ⟨t, p, hv⟩ := h.syn
    refine (Tryz.strconv_Atoi_syntax s (by omega) ha (.iface t p) w hv (.inr ⟨t, p, rfl⟩)).mono ?_
    rintro e w' ⟨N, rfl, -, -, hb⟩
    exact ⟨.inr ⟨fun v hv => (by rw [ha] at hv; cases hv), _, _, _, rfl⟩, hb⟩
  · obtain ⟨t, p, hv⟩ := h.rng
    refine (Tryz.strconv_Atoi_range s (by omega) ha (.iface t p) w hv (.inr ⟨t, p, rfl⟩)).mono ?_
    rintro e w' ⟨N, rfl, -, -, hb⟩
    exact ⟨.inr ⟨fun v hv => (by rw [ha] at hv; cases hv), _, _, _, rfl⟩, hb⟩
/-- strings.Split at the point -/
theorem split_walk (s : ByteArray) (w : World) (h : TokW w) (hs : s.size ≤ 1000000) :
    Calls Tryz.prog 76 #[.string s, .string ⟨#[46]⟩] w fun e w' => e = .returned (.slice (some ⟨w.heap.size, 0, none⟩) (Lib.countB s dot + 1) (Lib.countB s dot + 1)) ∧ w' = w.alloc (.cells ((Lib.splitB dot 0 (Lib.countB s dot) s).map Value.string).toArray 9) := by
  obtain ⟨m, hm⟩ := h.max
  exact Tryz.strings_Split s dot m w (by omega) hm (by decide)
end Go.Proofs.YtinijohmdljieaaGreatDoor

namespace Go.Proofs.YtinijohmdljieaaGreatDoor
open Go.ChangeShapes Go.WideShapes Go.ChangeAt Go.RowKit

theorem own : ownKnob Tryz.prog.godebug = none := by kernel_rfl
theorem laidOut : laidOutB Tryz.prog = true := by kernel_rfl

/-- the variables that the rows list -/
abbrev tokLaid : List (String × DataW Unit) := [("math/bits.deBruijn32tab", Rows.laid_math_bits_deBruijn32tab), ("math/bits.deBruijn64tab", Rows.laid_math_bits_deBruijn64tab), ("internal/strconv.uint64pow10", Rows.laid_internal_strconv_uint64pow10), ("unicode/utf8.acceptRanges", Rows.laid_unicode_utf8_acceptRanges), ("strconv.ErrRange", Rows.laid_strconv_ErrRange), ("strconv.ErrSyntax", Rows.laid_strconv_ErrSyntax), ("unicode/utf8.first", Rows.laid_unicode_utf8_first)]
theorem star_error : "*" ++ "errors.errorString" = "*errors.errorString" := by decide
theorem row_error (u : TypeId) (h : Tryz.prog.typeName? 3 u = some "*errors.errorString") : u = 284 :=
  typeName_ptr_named (nm := "errors.errorString") (by rw [star_error]; kernel_rfl) (by kernel_rfl) (by decide) u (by rw [star_error]; exact h)
theorem tokW_of {W : World} (hL : laidMet Tryz.prog tokLaid W) (hsh : W.ShapedOpen Tryz.prog) : TokW W := by
  have h3 : laidMet Tryz.prog (("internal/strconv.uint64pow10", Lib.tabData .u64 Lib.pow10Tab) :: [("unicode/utf8.acceptRanges", Rows.laid_unicode_utf8_acceptRanges), ("strconv.ErrRange", Rows.laid_strconv_ErrRange), ("strconv.ErrSyntax", Rows.laid_strconv_ErrSyntax), ("unicode/utf8.first", Rows.laid_unicode_utf8_first)]) W := hL.tail.tail
  have h5 := h3.tail.tail
  obtain ⟨a, s, hv, -, -, -⟩ := laid_sentinel (g := 1) (ti := 160) (tp := 284) (te := 286) (ts := 9) h5 (by kernel_rfl) (by kernel_rfl) Tryz.underlying160 row_error Tryz.underlying284 Tryz.underlying286 rfl rfl Tryz.underlying9 (by kernel_rfl) (by kernel_rfl)
  obtain ⟨a2, s2, hv2, -, -, -⟩ := laid_sentinel (g := 0) (ti := 160) (tp := 284) (te := 286) (ts := 9) h5.tail (by kernel_rfl) (by kernel_rfl) Tryz.underlying160 row_error Tryz.underlying284 Tryz.underlying286 rfl rfl Tryz.underlying9 (by kernel_rfl) (by kernel_rfl)
  have c1 := World.var?_cell (show Tryz.prog.globalNamed "strconv.ErrRange" = some 1 by kernel_rfl) hv 0
  have c2 := World.var?_cell (show Tryz.prog.globalNamed "strconv.ErrSyntax" = some 0 by kernel_rfl) hv2 0
  refine ⟨Lib.tabIs_of_head pow10_var (by kernel_rfl) Tryz.underlying305 Tryz.underlying206 (by kernel_rfl) (by kernel_rfl) h3, ⟨_, _, by simpa using c2⟩, ⟨_, _, by simpa using c1⟩, ?_⟩
  exact cell_of_shapedOpen_int (zero := #[.int .i64 0]) (t := 3) hsh (of_decide_eq_true (by kernel_rfl)) (by kernel_rfl) rfl (by kernel_rfl) (by kernel_rfl) Tryz.underlying3

/-- the settled world, the listed variables laid -/
noncomputable def laidWorld (os : Os) : World := World.laidAll Tryz.prog os tokLaid
theorem laidWorld_os (os : Os) : (laidWorld os).os = os := World.laidAll_os _ _ _
theorem laidWorld_met (os : Os) (args : Array Value) : laidMet Tryz.prog tokLaid ((laidWorld os).forCall (fun _ _ => 0) ⟨#[], args, []⟩).memory :=
  laidMet_laidAll args (by kernel_rfl) (by kernel_rfl)

/-- No parameter wants a stand-in; the program's own looks are off: what the cards ask. -/
theorem plain_of {b : Bool} (name : String) (k : Nat) (fk : Func) (ts : Array TypeId) (h1 : Tryz.prog.funcNamed name = some k) (h2 : Tryz.prog.funcs[k]? = some fk) (h3 : fk.params = ts) (h4 : ts.toList.all (fun t => !Tryz.prog.wantsStandIn t) = true)
    (h5 : b = Tryz.pinned.checked.prog.looks []) (f : FuncId) (fn : Func) (hf : Tryz.pinned.checked.prog.funcNamed name = some f) (hfn : Tryz.pinned.checked.prog.funcs[f]? = some fn) :
    b = Tryz.pinned.checked.prog.looks [] ∧ ∀ (j : Nat) t, fn.params[j]? = some t → Tryz.pinned.checked.prog.wantsStandIn t = false := by
  obtain rfl : f = k := (Option.some.inj (h1.symm.trans hf)).symm
  obtain rfl : fn = fk := (Option.some.inj (h2.symm.trans hfn)).symm
  refine ⟨h5, fun j t ht => ?_⟩
  rw [h3] at ht
  have hm : t ∈ ts.toList := Array.mem_toList_iff.2 (Array.mem_of_getElem? ht)
  have h6 : Tryz.prog.wantsStandIn t = false := by simpa using List.all_eq_true.1 h4 t hm
  exact h6
end Go.Proofs.YtinijohmdljieaaGreatDoor

namespace Go.Proofs.YtinijohmdljieaaGreatDoor
open Go.RowKit

/-- a cell's datum: a value without places, or a list whose elements have k cells each -/
inductive D where
  | atom (v : Value)
  | list (k : Nat) (es : List (List D))
/-- the blocks from a number on; those between two numbers -/
abbrev From (lo : Nat) : Nat → Prop := fun b => lo ≤ b
abbrev In (lo hi : Nat) : Nat → Prop := fun b => lo ≤ b ∧ b < hi
/-- how a datum lies in a world, in blocks that meet P; o: its places can be written -/
inductive Mem (o : Bool) (P : Nat → Prop) (w : World) : D → Value → Prop where
  | atom (v : Value) : Mem o P w (.atom v) v
  | list (k : Nat) (es : List (List D)) (vs : List (List Value)) (a : Option Addr) (c b off : Nat) (hl : vs.length = es.length) (hle : vs.length ≤ c)
      (ha : 0 < vs.length → a = some ⟨b, off, none⟩ ∧ P b ∧ b < w.heap.size) (hk : ∀ (j : Nat) (v : List Value), vs[j]? = some v → v.length = k) (hke : ∀ (j : Nat) (e : List D), es[j]? = some e → e.length = k)
      (hc : ∀ (j : Nat) (v : List Value) (i : Nat) (u : Value), vs[j]? = some v → v[i]? = some u → w.cell? ⟨b, off + j * k + i, none⟩ = some u ∧ (o = true → w.frozen? ⟨b, off + j * k + i, none⟩ = false))
      (hm : ∀ (j : Nat) (v : List Value) (e : List D) (i : Nat) (u : Value) (d : D), vs[j]? = some v → es[j]? = some e → v[i]? = some u → e[i]? = some d → Mem o P w d u) : Mem o P w (.list k es) (.slice a vs.length c)
/-- cells that hold data -/
def MemL (o : Bool) (P : Nat → Prop) (w : World) (ds : List D) (us : List Value) : Prop := us.length = ds.length ∧ ∀ (i : Nat) d u, ds[i]? = some d → us[i]? = some u → Mem o P w d u
theorem lt_of_some {α : Type} {l : List α} {j : Nat} {x : α} (h : l[j]? = some x) : j < l.length := by
  rcases Nat.lt_or_ge j l.length with h1 | h1
  · exact h1
  · rw [List.getElem?_eq_none h1] at h; cases h
theorem Mem.kept {o : Bool} {P : Nat → Prop} {w w' : World} {d : D} {v : Value} (h : Mem o P w d v) (hk : ∀ k, P k → k < w.heap.size → w'.heap[k]? = w.heap[k]?) (hs : w.heap.size ≤ w'.heap.size) : Mem o P w' d v := by
  induction h with
  | atom v => exact .atom v
  | list k es vs a c b off hl hle ha hk1 hk2 hc hm ih =>
    refine .list k es vs a c b off hl hle (fun h0 => ⟨(ha h0).1, (ha h0).2.1, Nat.lt_of_lt_of_le (ha h0).2.2 hs⟩) hk1 hk2 (fun j v i u hj hi => ?_) ih
    have h0 : 0 < vs.length := by have := lt_of_some hj; omega
    have hb := hk b (ha h0).2.1 (ha h0).2.2
    obtain ⟨h1, h2⟩ := hc j v i u hj hi
    exact ⟨by rw [World.cell?_of_block hb]; exact h1, fun ho => by rw [World.frozen?_of_block hb]; exact h2 ho⟩
theorem Mem.grow {o : Bool} {P : Nat → Prop} {w w' : World} {d : D} {v : Value} (h : Mem o P w d v) (hb : Below w.heap.size w w') : Mem o P w' d v := h.kept (fun k _ hk => hb.block k hk) hb.size
theorem Mem.weak {o : Bool} {P P' : Nat → Prop} {w : World} {d : D} {v : Value} (h : Mem o P w d v) (hp : ∀ b, P b → b < w.heap.size → P' b) : Mem o P' w d v := by
  induction h with
  | atom v => exact .atom v
  | list k es vs a c b off hl hle ha hk1 hk2 hc hm ih =>
    exact .list k es vs a c b off hl hle (fun h0 => ⟨(ha h0).1, hp b (ha h0).2.1 (ha h0).2.2, (ha h0).2.2⟩) hk1 hk2 hc ih
theorem Mem.read {o : Bool} {P : Nat → Prop} {w : World} {d : D} {v : Value} (h : Mem o P w d v) : Mem false (From 0) w d v := by
  induction h with
  | atom v => exact .atom v
  | list k es vs a c b off hl hle ha hk1 hk2 hc hm ih =>
    exact .list k es vs a c b off hl hle (fun h0 => ⟨(ha h0).1, Nat.zero_le _, (ha h0).2.2⟩) hk1 hk2 (fun j v i u hj hi => ⟨(hc j v i u hj hi).1, fun h => by cases h⟩) ih
theorem MemL.kept {o : Bool} {P : Nat → Prop} {w w' : World} {ds : List D} {us : List Value} (h : MemL o P w ds us) (hk : ∀ k, P k → k < w.heap.size → w'.heap[k]? = w.heap[k]?) (hs : w.heap.size ≤ w'.heap.size) : MemL o P w' ds us :=
  ⟨h.1, fun i d u h1 h2 => (h.2 i d u h1 h2).kept hk hs⟩
theorem MemL.grow {o : Bool} {P : Nat → Prop} {w w' : World} {ds : List D} {us : List Value} (h : MemL o P w ds us) (hb : Below w.heap.size w w') : MemL o P w' ds us := h.kept (fun k _ hk => hb.block k hk) hb.size
theorem MemL.weak {o : Bool} {P P' : Nat → Prop} {w : World} {ds : List D} {us : List Value} (h : MemL o P w ds us) (hp : ∀ b, P b → b < w.heap.size → P' b) : MemL o P' w ds us := ⟨h.1, fun i d u h1 h2 => (h.2 i d u h1 h2).weak hp⟩
theorem MemL.read {o : Bool} {P : Nat → Prop} {w : World} {ds : List D} {us : List Value} (h : MemL o P w ds us) : MemL false (From 0) w ds us := ⟨h.1, fun i d u h1 h2 => (h.2 i d u h1 h2).read⟩
theorem MemL.nil (o : Bool) (P : Nat → Prop) (w : World) : MemL o P w [] [] := ⟨rfl, fun i d u h => absurd h (by simp)⟩
theorem MemL.cons {o : Bool} {P : Nat → Prop} {w : World} {d : D} {u : Value} {ds : List D} {us : List Value} (h : Mem o P w d u) (hs : MemL o P w ds us) : MemL o P w (d :: ds) (u :: us) := by
  refine ⟨by simp [hs.1], fun i d' u' h1 h2 => ?_⟩
  cases i with
  | zero => simp at h1 h2; subst h1 h2; exact h
  | succ i => simp at h1 h2; exact hs.2 i d' u' h1 h2
theorem MemL.inv {o : Bool} {P : Nat → Prop} {w : World} {d : D} {ds : List D} {us : List Value} (h : MemL o P w (d :: ds) us) : ∃ u us', us = u :: us' ∧ Mem o P w d u ∧ MemL o P w ds us' := by
  cases us with
  | nil => have := h.1; simp at this
  | cons u us => exact ⟨u, us, rfl, h.2 0 d u rfl rfl, by have := h.1; simp at this; exact this, fun i d' u' h1 h2 => h.2 (i + 1) d' u' (by simpa using h1) (by simpa using h2)⟩
theorem MemL.inv0 {o : Bool} {P : Nat → Prop} {w : World} {us : List Value} (h : MemL o P w [] us) : us = [] := List.eq_nil_of_length_eq_zero (by simpa using h.1)
theorem Mem.atomInv {o : Bool} {P : Nat → Prop} {w : World} {v u : Value} (h : Mem o P w (.atom v) u) : u = v := match h with | .atom _ => rfl
/-- a list opened -/
structure ListC (o : Bool) (P : Nat → Prop) (w : World) (k : Nat) (es : List (List D)) (a : Option Addr) (b off : Nat) (vs : List (List Value)) : Prop where
  len : vs.length = es.length
  at0 : 0 < es.length → a = some ⟨b, off, none⟩ ∧ P b ∧ b < w.heap.size
  wid : ∀ e ∈ es, e.length = k
  row : ∀ j (h : j < es.length) (h' : j < vs.length), MemL o P w es[j] vs[j]
  cell : ∀ j (h : j < vs.length) i u, vs[j][i]? = some u → w.cell? ⟨b, off + j * k + i, none⟩ = some u
  frz : o = true → ∀ j, j < vs.length → ∀ i, i < k → w.frozen? ⟨b, off + j * k + i, none⟩ = false
theorem Mem.listInv {o : Bool} {P : Nat → Prop} {w : World} {k : Nat} {es : List (List D)} {u : Value} (h : Mem o P w (.list k es) u) : ∃ a c b off vs, u = .slice a es.length c ∧ es.length ≤ c ∧ ListC o P w k es a b off vs := by
  cases h with
  | list _ _ vs a c b off hl hle ha hk1 hk2 hc hm =>
    refine ⟨a, c, b, off, vs, by rw [hl], by omega, hl, fun h0 => ha (by omega), fun e he => ?_, fun j h h' => ⟨?_, fun i d u h1 h2 => hm j vs[j] es[j] i u d (List.getElem?_eq_getElem h') (List.getElem?_eq_getElem h) h2 h1⟩, fun j h i u hi => (hc j vs[j] i u (List.getElem?_eq_getElem h) hi).1, fun hlo j h i hi => ?_⟩
    · obtain ⟨j, hj, rfl⟩ := List.mem_iff_getElem.1 he
      exact hk2 j _ (List.getElem?_eq_getElem hj)
    · rw [hk1 j _ (List.getElem?_eq_getElem h'), hk2 j _ (List.getElem?_eq_getElem h)]
    · have hw := hk1 j _ (List.getElem?_eq_getElem h)
      exact (hc j vs[j] i (vs[j]'h)[i] (List.getElem?_eq_getElem h) (List.getElem?_eq_getElem (by omega))).2 hlo
theorem ListC.below {o : Bool} {P : Nat → Prop} {w w' : World} {k : Nat} {es : List (List D)} {a : Option Addr} {b off : Nat} {vs : List (List Value)} (h : ListC o P w k es a b off vs) (hb : Below w.heap.size w w') : ListC o P w' k es a b off vs := by
  have hbl : ∀ j, j < vs.length → w'.heap[b]? = w.heap[b]? := fun j hj => hb.block b (h.at0 (by have := h.len; omega)).2.2
  exact ⟨h.len, fun h0 => ⟨(h.at0 h0).1, (h.at0 h0).2.1, Nat.lt_of_lt_of_le (h.at0 h0).2.2 hb.size⟩, h.wid, fun j h1 h2 => (h.row j h1 h2).grow hb, fun j hj i u hi => by rw [World.cell?_of_block (hbl j hj)]; exact h.cell j hj i u hi, fun hlo j hj i hi => by rw [World.frozen?_of_block (hbl j hj)]; exact h.frz hlo j hj i hi⟩
theorem flat_at {α : Type} {k : Nat} : ∀ (vs : List (List α)) (_ : ∀ v ∈ vs, v.length = k) (j i : Nat) (h : j < vs.length) (_ : i < k), vs.flatten[j * k + i]? = vs[j][i]?
  | v :: vs, hw, 0, i, _, hi => by
    have := hw v (List.mem_cons_self ..)
    rw [List.flatten_cons, Nat.zero_mul, Nat.zero_add, List.getElem?_append_left (by omega)]; rfl
  | v :: vs, hw, j + 1, i, h, hi => by
    have h1 := hw v (List.mem_cons_self ..)
    rw [List.flatten_cons, List.getElem?_append_right (by rw [h1, Nat.add_mul]; omega), h1, show (j + 1) * k + i - k = j * k + i by rw [Nat.add_mul]; omega]
    exact flat_at vs (fun x hx => hw x (List.mem_cons_of_mem _ hx)) j i (by simpa using h) hi
theorem flat_len {α : Type} {k : Nat} : ∀ (vs : List (List α)) (_ : ∀ v ∈ vs, v.length = k), vs.flatten.length = vs.length * k
  | [], _ => by simp
  | v :: vs, hw => by
    rw [List.flatten_cons, List.length_append, flat_len vs fun x hx => hw x (List.mem_cons_of_mem _ hx), hw v (List.mem_cons_self ..), List.length_cons, Nat.add_mul]
    omega
/-- a list that the call has built -/
theorem memOwn {w : World} {base : Nat} {E : TypeId} {k vc : Nat} {va : Option Addr} {es : List (List D)} {vs : List (List Value)} (h : Own w base E k va vc es.length vs.flatten) (hk0 : 0 < k) (hl : vs.length = es.length) (hw : ∀ v ∈ vs, v.length = k) (hwe : ∀ e ∈ es, e.length = k)
    (hm : ∀ j (h1 : j < es.length) (h2 : j < vs.length), MemL true (From base) w es[j] vs[j]) : Mem true (From base) w (.list k es) (.slice va es.length vc) := by
  rw [← hl]
  have hx : ∀ (j : Nat) v (i : Nat) u, vs[j]? = some v → v[i]? = some u → vs.flatten[j * k + i]? = some u ∧ j < vs.length := by
    intro j v i u hj hi
    have hj' := lt_of_some hj
    rw [List.getElem?_eq_getElem hj'] at hj
    injection hj with hj
    have hi' := lt_of_some hi
    have := hw v (hj ▸ List.getElem_mem hj')
    exact ⟨by rw [flat_at vs hw j i hj' (by omega), hj]; exact hi, hj'⟩
  rcases h.block with ⟨rfl, h0, rfl⟩ | ⟨g, rfl, hb, hlt, -⟩
  · exact .list k es vs none 0 0 0 hl (by omega) (fun h => by omega) (fun j v hj => hw v (List.mem_of_getElem? hj)) (fun j e hj => hwe e (List.mem_of_getElem? hj)) (fun j v i u hj _ => by have := lt_of_some hj; omega) (fun j v e i u d hj _ _ _ => by have := lt_of_some hj; omega)
  · refine .list k es vs (some ⟨g, 0, none⟩) vc g 0 hl (by have := h.cap.1; omega) (fun _ => ⟨rfl, hb, hlt⟩) (fun j v hj => hw v (List.mem_of_getElem? hj)) (fun j e hj => hwe e (List.mem_of_getElem? hj)) (fun j v i u hj hi => ?_) (fun j v e i u d hj he hi hd => ?_)
    · obtain ⟨h1, h2⟩ := hx j v i u hj hi
      have hpos : 0 < es.length * k := Nat.mul_pos (by omega) hk0
      obtain ⟨g', he, -, -, hcell, hfz⟩ := h.cell hpos
      cases he
      rw [Nat.zero_add]
      exact ⟨hcell _ _ h1, fun _ => hfz _⟩
    · have hj1 := lt_of_some hj
      have hj2 := lt_of_some he
      have hm' := hm j hj2 hj1
      rw [List.getElem?_eq_getElem hj1] at hj
      rw [List.getElem?_eq_getElem hj2] at he
      injection hj with hj; injection he with he
      subst hj he
      exact hm'.2 i d u hd hi
end Go.Proofs.YtinijohmdljieaaGreatDoor

namespace Go.Proofs.YtinijohmdljieaaGreatDoor
open Go.RowKit

theorem elemStr : Elem Tryz.prog 23 9 1 16 := ⟨Tryz.underlying23, ⟨.string ⟨#[]⟩, by kernel_rfl, rfl⟩, by omega, Tryz.sizeOf9⟩

theorem getD_strs {xs : List ByteArray} {w : World} {b off : Nat} (h : ∀ j (hj : j < xs.length), w.cell? ⟨b, off + j, none⟩ = some (.string xs[j])) :
    ∀ j, j < xs.length → w.cell? ⟨b, off + j, none⟩ = some (.string (xs.getD j ByteArray.empty)) := by
  intro j hj
  rw [h j hj, List.getD_eq_getElem?_getD, List.getElem?_eq_getElem hj]; rfl

/-- slices.Clone of texts -/
theorem cloneStrs (v : Value) (xs : List ByteArray) (w : World) (hl : xs.length ≤ 1048576) (h : Strs w.heap.size w v xs) :
    Calls Tryz.prog 41 #[v] w fun e w' => ∃ va vc, e = .returned (.slice va xs.length vc) ∧ Own w' w.heap.size 9 1 va vc xs.length (xs.map Value.string) ∧ Below w.heap.size w w' := by
  obtain ⟨a, c, b, o, rfl, hle, ha, hc⟩ := h.cells
  have fin : ∀ (v' : Value) (w' : World), w'.ownsRow w.heap.size 9 1 v' xs.length (xs.map Value.string) → ∃ va vc, v' = .slice va xs.length vc ∧ Own w' w.heap.size 9 1 va vc xs.length (xs.map Value.string) := by
    intro v' w' hr
    rcases hr.2 with ⟨hv, h0⟩ | ⟨g, cap, _, hv, _⟩
    · exact ⟨none, 0, by rw [hv, h0], ⟨by rw [h0] at hr ⊢; rw [hv] at hr; exact hr⟩⟩
    · exact ⟨_, _, hv, ⟨by rw [hv] at hr; exact hr⟩⟩
  by_cases h0 : 0 < xs.length
  · obtain ⟨rfl, hb⟩ := ha h0
    refine (Tryz.slices_Clone_string b o xs.length c xs w (Nat.le_refl _) (by omega) (getD_strs hc)).mono ?_
    rintro e w' ⟨v', rfl, hr, -, hbw⟩
    rw [List.take_length] at hr
    obtain ⟨va, vc, rfl, hO⟩ := fin v' w' hr
    exact ⟨va, vc, rfl, hO, hbw⟩
  · have : xs = [] := List.eq_nil_of_length_eq_zero (by omega)
    subst this
    cases a with
    | none =>
      refine (Tryz.slices_Clone_string_nil 0 c w).mono ?_
      rintro e w' ⟨rfl, rfl⟩
      exact ⟨none, 0, rfl, Own.nil _ _ _ _, Below.refl _ _⟩
    | some a =>
      refine (Tryz.slices_Clone_string_zero a c w).mono ?_
      rintro e w' ⟨v', rfl, hr, -, hbw⟩
      obtain ⟨va, vc, rfl, hO⟩ := fin v' w' hr
      exact ⟨va, vc, rfl, hO, hbw⟩
/-- a slice of strings of one's own reads as it -/
theorem Own.strs {w : World} {base B vc : Nat} {va : Option Addr} {xs : List ByteArray} (h : Own w base 9 1 va vc xs.length (xs.map Value.string)) (hB : w.heap.size ≤ B) : Strs B w (.slice va xs.length vc) xs := by
  by_cases h0 : 0 < xs.length
  · obtain ⟨g, rfl, -, hlt, hc, -⟩ := h.cell (by omega)
    refine ⟨some ⟨g, 0, none⟩, vc, g, 0, rfl, h.cap.1, fun _ => ⟨rfl, by omega⟩, fun j x hj => ⟨fun _ => .string x, fun i hi => ?_, rfl⟩⟩
    obtain rfl : i = 0 := by omega
    rw [show 0 + j * 1 + 0 = j by omega]
    exact hc j _ (by rw [List.getElem?_map, hj]; rfl)
  · have : xs = [] := List.eq_nil_of_length_eq_zero (by omega)
    subst this
    exact ⟨va, vc, 0, 0, rfl, h.cap.1, by simp, by simp⟩
end Go.Proofs.YtinijohmdljieaaGreatDoor
