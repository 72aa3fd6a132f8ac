/- slices.Delete of one place, off a slice that the call has made. slices.IndexFunc, slices.ContainsFunc at attributes, pairs of texts, places. Written by wip/moflatgen.py. Places: slices.Contains, slices.IndexFunc at some of them, slices.Clone, slices.Delete. Maps: the entry that an append behind 'm[k]' goes through. -/
import Derived.Test.YtfbbkmdhnkmonaaGreatDoorS30
import Derived.Test.YtfbbkmdhnkmonaaGreatDoorS08
import Derived.Test.YtfbbkmdhnkmonaaGreatDoorS11
import Derived.ChangeKeysEq
import Derived.WideKeyEntry
namespace Go.Proofs.YtfbbkmdhnkmonaaGreatDoor
open Go.RowKit

def setsA : Array Value → Nat → List Value → Array Value
  | c, _, [] => c
  | c, o, v :: r => setsA (c.setIfInBounds o v) (o + 1) r
theorem setsA_size : ∀ (vs : List Value) (c : Array Value) (o : Nat), (setsA c o vs).size = c.size
  | [], _, _ => rfl
  | v :: r, c, o => by rw [setsA, setsA_size r]; simp
theorem setsA_toList : ∀ (vs : List Value) (c : Array Value) (o : Nat), o + vs.length ≤ c.size → (setsA c o vs).toList = c.toList.take o ++ vs ++ c.toList.drop (o + vs.length)
  | [], c, o, _ => by simp [setsA]
  | v :: r, c, o, h => by
    simp only [List.length_cons] at h
    rw [setsA, setsA_toList r _ _ (by simp; omega)]
    have e : (c.setIfInBounds o v).toList = c.toList.take o ++ v :: c.toList.drop (o + 1) := by
      rw [Array.toList_setIfInBounds, List.set_eq_take_append_cons_drop, if_pos (by simp; omega)]
    have hlo : (c.toList.take o).length = o := by simp; omega
    rw [e]
    rw [show List.take (o + 1) (c.toList.take o ++ v :: c.toList.drop (o + 1)) = c.toList.take o ++ [v] by
      rw [List.take_append, hlo, List.take_of_length_le (by omega), show o + 1 - o = 1 by omega]; simp]
    rw [show List.drop (o + 1 + r.length) (c.toList.take o ++ v :: c.toList.drop (o + 1)) = c.toList.drop (o + (r.length + 1)) by
      rw [List.drop_append, hlo, List.drop_of_length_le (by omega), List.nil_append, show o + 1 + r.length - o = r.length + 1 by omega, List.drop_succ_cons, List.drop_drop]
      congr 1; omega]
    simp
theorem heap_setsA {g : Nat} {E : TypeId} {z : Nat × Nat} : ∀ (vs : List Value) (c : Array Value) (o : Nat) (w : World), w.heap[g]? = some (.cells c E z) → (w.setCells g o vs).heap[g]? = some (.cells (setsA c o vs) E z)
  | [], _, _, _, h => h
  | v :: r, c, o, w, h => by
    rw [World.setCells, setsA]
    refine heap_setsA r _ _ _ ?_
    simp only [World.setCell, Array.getElem?_modify, h]
    simp
theorem grown_setCell (w : World) (a : Addr) (v : Value) : w.grownBy (w.setCell a v) (some a.block) :=
  ⟨rfl, rfl, rfl, by simp [World.setCell], fun k _ hk => Below.heap_setCell w a v k (fun e => hk (by rw [e]))⟩
theorem grown_setCells {g : Nat} : ∀ (vs : List Value) (o : Nat) (w : World), w.grownBy (w.setCells g o vs) (some g)
  | [], _, _ => World.grownBy.refl _ _
  | v :: r, o, w => (grown_setCell w ⟨g, o, none⟩ v).trans (grown_setCells r (o + 1) _)

section
variable {P : Program} {T E : TypeId} {k bytes : Nat} {w : World} {base vc n g i : Nat} {cells : List Value}
theorem Own.curG (h : Own w base E k (some ⟨g, 0, none⟩) vc n cells) : base ≤ g ∧ ∃ cur, w.heap[g]? = some (.cells cur E (0, 0)) ∧ n ≤ vc ∧ vc ≤ maxLen ∧ cur.size = vc * k ∧ cur.toList.take (n * k) = cells := by
  rcases h.row.2 with ⟨h1, _⟩ | ⟨g', cap, cur, h1, h2, h3, h4, h5, h6, h7⟩
  · cases h1
  · cases h1
    exact ⟨h2, cur, h3, h4, h5, h6, h7⟩
/-- the cells moved down, and what is behind them filled -/
theorem own_del (h : Own w base E k (some ⟨g, 0, none⟩) vc n cells) (hi : i < n) (zs : List Value) (hzs : zs.length = k) :
    Own ((w.setCells g (i * k) (cells.drop ((i + 1) * k))).setCells g ((n - 1) * k) zs) base E k (some ⟨g, 0, none⟩) vc (n - 1) (cells.take (i * k) ++ cells.drop ((i + 1) * k)) := by
  obtain ⟨hb, cur, hc, h4, h5, h6, h7⟩ := h.curG
  obtain ⟨m, rfl⟩ : ∃ m, n = m + 1 := ⟨n - 1, by omega⟩
  have hcl := h.length
  have hik : (i + 1) * k ≤ (m + 1) * k := Nat.mul_le_mul_right _ (by omega)
  have hnk : (m + 1) * k ≤ vc * k := Nat.mul_le_mul_right _ h4
  rw [Nat.add_mul, Nat.one_mul] at hik
  rw [Nat.add_mul, Nat.one_mul] at hik hnk hcl
  have hcl2 := hcl
  have hmk : m * k + k ≤ cur.size := by omega
  rw [Nat.add_sub_cancel, Nat.add_mul, Nat.one_mul]
  have hdl : (cells.drop (i * k + k)).length = m * k - i * k := by rw [List.length_drop]; omega
  have hH1 := heap_setsA (cells.drop (i * k + k)) cur (i * k) w hc
  have hH2 := heap_setsA zs _ (m * k) _ hH1
  refine ⟨by rw [List.length_append, List.length_take, hdl]; omega, .inr ⟨g, vc, _, rfl, hb, hH2, by omega, h5, by rw [setsA_size, setsA_size]; exact h6, ?_⟩⟩
  rw [setsA_toList _ _ _ (by rw [setsA_size]; omega), List.append_assoc, List.take_append_of_le_length (by rw [List.length_take, Array.length_toList, setsA_size]; omega), List.take_take, Nat.min_self]
  rw [setsA_toList _ _ _ (by rw [hdl]; omega), List.take_append_of_le_length (by rw [List.length_append, List.length_take, hdl, Array.length_toList]; omega)]
  rw [List.take_of_length_le (by rw [List.length_append, List.length_take, hdl, Array.length_toList]; omega)]
  congr 1
  rw [← h7, List.take_take, Nat.min_eq_left (by rw [Nat.add_mul, Nat.one_mul]; omega)]
/-- 'append(s[:i], s[i+1:]...)' -/
theorem run_append_del (hE : Elem P T E k bytes) (ty : TypeId) (h : Own w base E k (some ⟨g, 0, none⟩) vc n cells) (hi : i < n) (a : Option Addr) (c : Nat) (ha : 0 < n - (i + 1) → a = some ⟨g, (i + 1) * k, none⟩) (hone : ∀ u ∈ cells, u.oneCell' = true) :
    (Builtin.append_ #[T, T] ty #[.slice (some ⟨g, 0, none⟩) i vc, .slice a (n - (i + 1)) c]).run P w = .ok (.slice (some ⟨g, 0, none⟩) (n - 1) vc) (w.setCells g (i * k) (cells.drop ((i + 1) * k))) := by
  obtain ⟨hb, cur, hc, h4, h5, h6, h7⟩ := h.curG
  have hu := hE.sl
  have hsz := hE.size w
  have hcl := h.length
  have hk := hE.pos
  by_cases hm : 0 < n - (i + 1)
  · obtain rfl := ha hm
    have hpos : 0 < n * k := Nat.mul_pos (by omega) hk
    obtain ⟨g', he, -, -, hcell, hfz⟩ := h.cell hpos
    cases he
    have hdl : (cells.drop ((i + 1) * k)).length = (n - (i + 1)) * k := by rw [List.length_drop, hcl, Nat.sub_mul]
    have hfc : (Builtin.firstCells k (n - (i + 1)) (.slice (some ⟨g, (i + 1) * k, none⟩) (n - (i + 1)) c)).run P w = .ok (cells.drop ((i + 1) * k)).toArray w :=
      run_firstCells_some (w := w) k _ _ _ _ _ hdl (fun j v hj => by
        rw [List.getElem?_drop] at hj
        rw [Addr.add_lit]
        exact hcell _ _ hj)
    have hst := run_storeCells_cells (P := P) g (i * k) (cells.drop ((i + 1) * k)) 0 w (fun j hj => by
        rw [Nat.add_zero]
        have hj2 : i * k + j < cells.length := by
          rw [hdl, Nat.sub_mul, Nat.add_mul, Nat.one_mul] at hj
          omega
        rw [hcell _ _ (List.getElem?_eq_getElem hj2)]
        rfl) (fun j _ => hfz _) (fun v hv => hone v (List.mem_of_mem_drop hv))
    rw [Nat.add_zero] at hst
    have hneed : i + (n - (i + 1)) = n - 1 := by omega
    have hcap : n - 1 ≤ vc := by omega
    simp [Builtin.append_, run_underlying hu, hsz, Result.andThen, Builtin.lenOf, hneed, hcap, hfc, hst, Addr.add_lit]
  · have h0 : n - (i + 1) = 0 := by omega
    rw [h0, run_append_zero hE w ty _ a vc c (by omega), show n - 1 = i by omega]
    have : cells.drop ((i + 1) * k) = [] := List.drop_eq_nil_of_le (by rw [hcl, show i + 1 = n by omega]; exact Nat.le_refl _)
    rw [this]; rfl
/-- 'clear' of one element -/
theorem run_clear_one (hu : P.underlying T = some (.slice E)) {z : Value} (hz : ∀ W, (zeroValue E).run P W = .ok z W) (hzs : z.cells.size = k) (hone : ∀ u ∈ z.cells.toList, u.oneCell' = true) (ty : TypeId) (o c : Nat) (hc : ∀ j, j < k → (w.cell? ⟨g, o + j, none⟩).isSome = true) (hf : ∀ j, j < k → w.frozen? ⟨g, o + j, none⟩ = false) :
    (Builtin.clear_ #[T] ty #[.slice (some ⟨g, o, none⟩) 1 c]).run P w = .ok (.tuple #[]) (w.setCells g o z.cells.toList) := by
  have hzc : (Builtin.zeroCells z.cells 1).toList = z.cells.toList := by
    simp only [Builtin.zeroCells]
    apply List.ext_getElem
    · simp
    · intro i h1 h2
      simp at h1 h2 ⊢
      simp [Nat.mod_eq_of_lt (show i < z.cells.size by omega), h2]
  have hst := run_storeCells_cells (P := P) g o z.cells.toList 0 w (by simpa [hzs] using hc) (by simpa [hzs] using hf) hone
  simp only [Nat.add_zero] at hst
  simp [Builtin.clear_, run_underlying hu, hz, hzc, hst]
end
theorem flatMap_erase : ∀ (l : List Pl) (i : Nat), i < l.length → (l.flatMap plC).take (i * 3) ++ (l.flatMap plC).drop ((i + 1) * 3) = (l.eraseIdx i).flatMap plC
  | [], i, h => by simp at h
  | x :: l, 0, _ => by simp [plC]
  | x :: l, i + 1, h => by
    have := flatMap_erase l i (by simpa using h)
    have e1 : (i + 1) * 3 = i * 3 + 1 + 1 + 1 := by omega
    have e2 : (i + 1 + 1) * 3 = (i + 1) * 3 + 1 + 1 + 1 := by omega
    rw [e2, List.eraseIdx_cons_succ, List.flatMap_cons, List.flatMap_cons, ← this, e1]
    simp only [plC, List.cons_append, List.nil_append, List.take_succ_cons, List.drop_succ_cons]
end Go.Proofs.YtfbbkmdhnkmonaaGreatDoor

namespace Go.Proofs.YtfbbkmdhnkmonaaGreatDoor
open Go.RowKit

theorem ixOf_any {α : Type} (p : α → Bool) (l : List α) : decide (0 ≤ ixOf p l) = l.any p := by
  unfold ixOf
  rw [Bool.eq_iff_iff, decide_eq_true_eq]
  split
  · rename_i i h
    obtain ⟨h1, h2, -⟩ := List.findIdx?_eq_some_iff_getElem.1 h
    exact ⟨fun _ => List.any_eq_true.2 ⟨l[i], List.getElem_mem h1, h2⟩, fun _ => by omega⟩
  · rename_i h
    have h := List.findIdx?_eq_none_iff.1 h
    constructor
    · intro h0; omega
    · intro h0
      obtain ⟨x, hx, hp⟩ := List.any_eq_true.1 h0
      rw [h x hx] at hp; cases hp
instance : Inhabited Pl := ⟨(0, 0, 0)⟩
instance : Inhabited (ByteArray × ByteArray) := ⟨(⟨#[]⟩, ⟨#[]⟩)⟩
set_option maxHeartbeats 4000000 in
set_option maxRecDepth 100000 in
theorem ixAttrG (p : AttrD → Bool) (f : FuncId) (lb : Array Value) (eg : ∀ args w, (callFunc f args).run Tryz.prog w = .ok (.enter f args) w) (l : List AttrD) (a : Option Addr) (c : Nat) (w : World) (hl : l.length ≤ 1048576) {o : Bool} {P : Nat → Prop} (h : Mem o P w (flatL 2 AttrD.cs l) (.slice a l.length c))
    (hp : PredBelow Tryz.prog f lb (fun x => .agg (AttrD.cs x).toArray) p w) :
    Calls Tryz.prog 87 #[.slice a l.length c, .func (.func f) #[] lb] w fun e w' => e = .returned (.int .i64 (ixOf p l)) ∧ Below w.heap.size w w' := by
  obtain ⟨_, _, b, off, hv, -, hC⟩ := flat_open h
  injection hv with e1 e2 e3
  subst e1 e3
  by_cases h0 : l.length = 0
  · have hnil : l = [] := List.eq_nil_of_length_eq_zero h0
    subst hnil
    clear h hC hp
    go_enter Tryz.func87, Tryz.ntmps87
    go_wp2_with fail
    go_loopw [8] (fun i wr => i = .int .i64 0 ∧ wr = w) (fun _ _ => 0)
    case atStart => exact ⟨rfl, rfl⟩
    case round =>
      obtain ⟨rfl, rfl⟩ := hrel
      go_wp2_with fail
      go_ret
      exact ⟨rfl, Below.refl _ _⟩
  · obtain ⟨rfl, -, hbl⟩ := hC.at0 (by omega)
    have hcon := AnyQ.slices_IndexFunc Tryz.ixAttr 2 Tryz.isAgg61 Tryz.sizeOf61 AttrD.cs (fun _ => rfl) p f lb eg b off l.length c l w
      hp (by omega) (by omega) hbl (fun j hj i v hi => hC.cell j hj i v (by rw [getElem!_pos l j hj] at hi; exact hi))
    have hix : Lib.idxBy (fun _ (y : AttrD) => p y) (l.take l.length) default = ixOf p l := by
      rw [List.take_length]
      exact idx_ix p p default l l rfl fun j h1 h2 => rfl
    rw [hix] at hcon
    exact hcon
set_option maxHeartbeats 4000000 in
set_option maxRecDepth 100000 in
theorem hasAttrG (p : AttrD → Bool) (f : FuncId) (lb : Array Value) (eg : ∀ args w, (callFunc f args).run Tryz.prog w = .ok (.enter f args) w) (l : List AttrD) (a : Option Addr) (c : Nat) (w : World) (hl : l.length ≤ 1048576) {o : Bool} {P : Nat → Prop} (h : Mem o P w (flatL 2 AttrD.cs l) (.slice a l.length c))
    (hp : PredBelow Tryz.prog f lb (fun x => .agg (AttrD.cs x).toArray) p w) :
    Calls Tryz.prog 45 #[.slice a l.length c, .func (.func f) #[] lb] w fun e w' => e = .returned (.bool (l.any p)) ∧ Below w.heap.size w w' := by
  have HI := Lib.hid (ixAttrG p f lb eg l a c w hl h hp)
  rw [← ixOf_any]
  obtain ⟨r, hr⟩ : ∃ r, ixOf p l = r := ⟨_, rfl⟩
  rw [hr] at HI ⊢
  clear h hp hr eg
  go_enter Tryz.func45, Tryz.ntmps45
  go_wp2_with fail
  refine HI.out.mono ?_
  rintro e w2 ⟨rfl, hb2⟩
  have HB2 := Lib.hid hb2
  clear hb2 HI
  go_wp2_with fail
  go_ret
  exact ⟨rfl, HB2.out⟩
set_option maxHeartbeats 4000000 in
set_option maxRecDepth 100000 in
theorem ixPairG (p : (ByteArray × ByteArray) → Bool) (f : FuncId) (lb : Array Value) (eg : ∀ args w, (callFunc f args).run Tryz.prog w = .ok (.enter f args) w) (l : List (ByteArray × ByteArray)) (a : Option Addr) (c : Nat) (w : World) (hl : l.length ≤ 1048576) {o : Bool} {P : Nat → Prop} (h : Mem o P w (flatL 2 pairC l) (.slice a l.length c))
    (hp : PredBelow Tryz.prog f lb (fun x => .agg (pairC x).toArray) p w) :
    Calls Tryz.prog 91 #[.slice a l.length c, .func (.func f) #[] lb] w fun e w' => e = .returned (.int .i64 (ixOf p l)) ∧ Below w.heap.size w w' := by
  obtain ⟨_, _, b, off, hv, -, hC⟩ := flat_open h
  injection hv with e1 e2 e3
  subst e1 e3
  by_cases h0 : l.length = 0
  · have hnil : l = [] := List.eq_nil_of_length_eq_zero h0
    subst hnil
    clear h hC hp
    go_enter Tryz.func91, Tryz.ntmps91
    go_wp2_with fail
    go_loopw [8] (fun i wr => i = .int .i64 0 ∧ wr = w) (fun _ _ => 0)
    case atStart => exact ⟨rfl, rfl⟩
    case round =>
      obtain ⟨rfl, rfl⟩ := hrel
      go_wp2_with fail
      go_ret
      exact ⟨rfl, Below.refl _ _⟩
  · obtain ⟨rfl, -, hbl⟩ := hC.at0 (by omega)
    have hcon := AnyQ.slices_IndexFunc Tryz.ixPair 2 Tryz.isAgg95 Tryz.sizeOf95 pairC (fun _ => rfl) p f lb eg b off l.length c l w
      hp (by omega) (by omega) hbl (fun j hj i v hi => hC.cell j hj i v (by rw [getElem!_pos l j hj] at hi; exact hi))
    have hix : Lib.idxBy (fun _ (y : (ByteArray × ByteArray)) => p y) (l.take l.length) default = ixOf p l := by
      rw [List.take_length]
      exact idx_ix p p default l l rfl fun j h1 h2 => rfl
    rw [hix] at hcon
    exact hcon
set_option maxHeartbeats 4000000 in
set_option maxRecDepth 100000 in
theorem hasPairG (p : (ByteArray × ByteArray) → Bool) (f : FuncId) (lb : Array Value) (eg : ∀ args w, (callFunc f args).run Tryz.prog w = .ok (.enter f args) w) (l : List (ByteArray × ByteArray)) (a : Option Addr) (c : Nat) (w : World) (hl : l.length ≤ 1048576) {o : Bool} {P : Nat → Prop} (h : Mem o P w (flatL 2 pairC l) (.slice a l.length c))
    (hp : PredBelow Tryz.prog f lb (fun x => .agg (pairC x).toArray) p w) :
    Calls Tryz.prog 49 #[.slice a l.length c, .func (.func f) #[] lb] w fun e w' => e = .returned (.bool (l.any p)) ∧ Below w.heap.size w w' := by
  have HI := Lib.hid (ixPairG p f lb eg l a c w hl h hp)
  rw [← ixOf_any]
  obtain ⟨r, hr⟩ : ∃ r, ixOf p l = r := ⟨_, rfl⟩
  rw [hr] at HI ⊢
  clear h hp hr eg
  go_enter Tryz.func49, Tryz.ntmps49
  go_wp2_with fail
  refine HI.out.mono ?_
  rintro e w2 ⟨rfl, hb2⟩
  have HB2 := Lib.hid hb2
  clear hb2 HI
  go_wp2_with fail
  go_ret
  exact ⟨rfl, HB2.out⟩
set_option maxHeartbeats 4000000 in
set_option maxRecDepth 100000 in
theorem ixPlG (p : Pl → Bool) (f : FuncId) (lb : Array Value) (eg : ∀ args w, (callFunc f args).run Tryz.prog w = .ok (.enter f args) w) (l : List Pl) (a : Option Addr) (c : Nat) (w : World) (hl : l.length ≤ 1048576) {o : Bool} {P : Nat → Prop} (h : Mem o P w (flatL 3 plC l) (.slice a l.length c))
    (hp : PredBelow Tryz.prog f lb (fun x => .agg (plC x).toArray) p w) :
    Calls Tryz.prog 52 #[.slice a l.length c, .func (.func f) #[] lb] w fun e w' => e = .returned (.int .i64 (ixOf p l)) ∧ Below w.heap.size w w' := by
  obtain ⟨_, _, b, off, hv, -, hC⟩ := flat_open h
  injection hv with e1 e2 e3
  subst e1 e3
  by_cases h0 : l.length = 0
  · have hnil : l = [] := List.eq_nil_of_length_eq_zero h0
    subst hnil
    clear h hC hp
    go_enter Tryz.func52, Tryz.ntmps52
    go_wp2_with fail
    go_loopw [8] (fun i wr => i = .int .i64 0 ∧ wr = w) (fun _ _ => 0)
    case atStart => exact ⟨rfl, rfl⟩
    case round =>
      obtain ⟨rfl, rfl⟩ := hrel
      go_wp2_with fail
      go_ret
      exact ⟨rfl, Below.refl _ _⟩
  · obtain ⟨rfl, -, hbl⟩ := hC.at0 (by omega)
    have hcon := AnyQ.slices_IndexFunc Tryz.ixPl 3 Tryz.isAgg33 Tryz.sizeOf33 plC (fun _ => rfl) p f lb eg b off l.length c l w
      hp (by omega) (by omega) hbl (fun j hj i v hi => hC.cell j hj i v (by rw [getElem!_pos l j hj] at hi; exact hi))
    have hix : Lib.idxBy (fun _ (y : Pl) => p y) (l.take l.length) default = ixOf p l := by
      rw [List.take_length]
      exact idx_ix p p default l l rfl fun j h1 h2 => rfl
    rw [hix] at hcon
    exact hcon
set_option maxHeartbeats 4000000 in
set_option maxRecDepth 100000 in
theorem hasPlG (p : Pl → Bool) (f : FuncId) (lb : Array Value) (eg : ∀ args w, (callFunc f args).run Tryz.prog w = .ok (.enter f args) w) (l : List Pl) (a : Option Addr) (c : Nat) (w : World) (hl : l.length ≤ 1048576) {o : Bool} {P : Nat → Prop} (h : Mem o P w (flatL 3 plC l) (.slice a l.length c))
    (hp : PredBelow Tryz.prog f lb (fun x => .agg (plC x).toArray) p w) :
    Calls Tryz.prog 54 #[.slice a l.length c, .func (.func f) #[] lb] w fun e w' => e = .returned (.bool (l.any p)) ∧ Below w.heap.size w w' := by
  have HI := Lib.hid (ixPlG p f lb eg l a c w hl h hp)
  rw [← ixOf_any]
  obtain ⟨r, hr⟩ : ∃ r, ixOf p l = r := ⟨_, rfl⟩
  rw [hr] at HI ⊢
  clear h hp hr eg
  go_enter Tryz.func54, Tryz.ntmps54
  go_wp2_with fail
  refine HI.out.mono ?_
  rintro e w2 ⟨rfl, hb2⟩
  have HB2 := Lib.hid hb2
  clear hb2 HI
  go_wp2_with fail
  go_ret
  exact ⟨rfl, HB2.out⟩
end Go.Proofs.YtfbbkmdhnkmonaaGreatDoor

namespace Go.Proofs.YtfbbkmdhnkmonaaGreatDoor
open Go.RowKit

def plEq (x y : Pl) : Bool := x.1 == y.1 && (x.2.1 == y.2.1 && x.2.2 == y.2.2)
theorem plEq_eq (x y : Pl) : plEq x y = decide (x = y) := by
  obtain ⟨a, b, c⟩ := x
  obtain ⟨a', b', c'⟩ := y
  rw [Bool.eq_iff_iff]; simp [plEq]
theorem eqPl : EqlAt Tryz.prog 33 (fun x => .agg (plC x).toArray) plEq := by
  refine ⟨fun x y w => ?_, GuardAt.agg _ (by kernel_rfl)⟩
  obtain ⟨a, b, c⟩ := x
  obtain ⟨a', b', c'⟩ := y
  have hS := Tryz.underlying33
  obtain ⟨j, hj⟩ : ∃ i, Tryz.prog.info? 3 = some i := Option.isSome_iff_exists.1 (by kernel_rfl)
  have u3 := Tryz.underlying3
  have a3 := Tryz.isAgg3
  have z3 := Tryz.sizeOf3
  have hc1 : Tryz.prog.cellsOf 3 = 1 := by kernel_rfl
  simp only [plC]
  rw [run_eql_struct, show (10000 : Nat) = 9999 + 1 from rfl, run_equalIn_array w 9999 _ _ hS hj, hc1]
  rw [show List.range 3 = [0, 1, 2] from rfl]
  simp only [Op.eqItems]
  go_simp
  by_cases h1 : a = a' <;> by_cases h2 : b = b' <;> by_cases h3 : c = c' <;> simp [h1, h2, h3, plEq]
set_option maxHeartbeats 2000000 in
set_option maxRecDepth 100000 in
theorem containsPl (l : List Pl) (x : Pl) (a : Option Addr) (c : Nat) (w : World) (hl : l.length ≤ 1048576) {o : Bool} {P : Nat → Prop} (h : Mem o P w (flatL 3 plC l) (.slice a l.length c)) :
    Calls Tryz.prog 17 #[.slice a l.length c, .agg #[.int .i64 x.1, .int .i64 x.2.1, .int .i64 x.2.2]] w fun e w' => e = .returned (.bool (decide (x ∈ l))) ∧ Below w.heap.size w w' := by
  obtain ⟨_, _, b, off, hv, -, hC⟩ := flat_open h
  injection hv with e1 e2 e3
  subst e1 e3
  have hany : l.any (plEq x) = decide (x ∈ l) := by
    rw [Bool.eq_iff_iff, List.any_eq_true, decide_eq_true_eq]
    constructor
    · rintro ⟨y, hy, he⟩
      rw [plEq_eq, decide_eq_true_eq] at he
      rw [he]; exact hy
    · intro hx
      exact ⟨x, hx, by rw [plEq_eq]; simp⟩
  by_cases h0 : 0 < l.length
  · obtain ⟨rfl, -, -⟩ := hC.at0 h0
    have hc := AnyQ.slices_Contains Tryz.inPl 3 Tryz.isAgg33 Tryz.sizeOf33 plC (fun _ => rfl) plEq eqPl b off l.length c l x w (Nat.le_refl _) (by omega) (fun j hj i v hi => by
      rw [getElem!_pos l j hj] at hi
      exact hC.cell j hj i v hi)
    rw [List.take_length, hany] at hc
    exact hc
  · have : l = [] := List.eq_nil_of_length_eq_zero (by omega)
    subst this
    clear h hC
    simp only [List.length_nil, List.not_mem_nil, decide_false]
    go_enter Tryz.func17, Tryz.ntmps17
    go_wp2
    refine wp_loop_rounds 1 ?_
    rw [rounds_succ]
    go_wp2
    go_ret
    exact ⟨rfl, ((Below.refl _ _).alloc (Nat.le_refl _) _).alloc (by simp) _⟩
theorem sub_list {ok : Pl → Prop} : ∀ (l : List Pl), (∀ x ∈ l, ok x) → ∃ l' : List {q : Pl // ok q}, l'.map Subtype.val = l
  | [], _ => ⟨[], rfl⟩
  | x :: l, h => by
    obtain ⟨l', hl⟩ := sub_list l fun y hy => h y (List.mem_cons_of_mem _ hy)
    exact ⟨⟨x, h x (List.mem_cons_self ..)⟩ :: l', by rw [List.map_cons, hl]⟩
set_option maxHeartbeats 4000000 in
set_option maxRecDepth 100000 in
theorem ixPlS (ok : Pl → Prop) (p : Pl → Bool) (f : FuncId) (lb : Array Value) (eg : ∀ args w, (callFunc f args).run Tryz.prog w = .ok (.enter f args) w) (l : List Pl) (hok : ∀ x ∈ l, ok x) (a : Option Addr) (c : Nat) (w : World) (hl : l.length ≤ 1048576) {o : Bool} {P : Nat → Prop} (h : Mem o P w (flatL 3 plC l) (.slice a l.length c))
    (hp : PredBelow Tryz.prog f lb (fun x : {q : Pl // ok q} => .agg (plC x.1).toArray) (fun x => p x.1) w) :
    Calls Tryz.prog 52 #[.slice a l.length c, .func (.func f) #[] lb] w fun e w' => e = .returned (.int .i64 (ixOf p l)) ∧ Below w.heap.size w w' := by
  obtain ⟨_, _, b, off, hv, -, hC⟩ := flat_open h
  injection hv with e1 e2 e3
  subst e1 e3
  by_cases h0 : l.length = 0
  · have hnil : l = [] := List.eq_nil_of_length_eq_zero h0
    subst hnil
    clear h hC hp
    go_enter Tryz.func52, Tryz.ntmps52
    go_wp2_with fail
    go_loopw [8] (fun i wr => i = .int .i64 0 ∧ wr = w) (fun _ _ => 0)
    case atStart => exact ⟨rfl, rfl⟩
    case round =>
      obtain ⟨rfl, rfl⟩ := hrel
      go_wp2_with fail
      go_ret
      exact ⟨rfl, Below.refl _ _⟩
  · obtain ⟨rfl, -, hbl⟩ := hC.at0 (by omega)
    obtain ⟨l', hl'⟩ : ∃ l' : List {q : Pl // ok q}, l'.map Subtype.val = l := sub_list l hok
    have hlen : l'.length = l.length := by rw [← hl', List.length_map]
    have : Inhabited {q : Pl // ok q} := ⟨l'[0]'(by omega)⟩
    have hcon := AnyQ.slices_IndexFunc Tryz.ixPl 3 Tryz.isAgg33 Tryz.sizeOf33 (fun x : {q : Pl // ok q} => plC x.1) (fun _ => rfl) (fun x => p x.1) f lb eg b off l.length c l' w
      hp (by omega) (by omega) hbl (fun j hj i v hi => hC.cell j (by omega) i v (by
        rw [getElem!_pos l' j hj] at hi
        have : l[j]'(by omega) = l'[j].1 := by simp [← hl']
        rw [this]; exact hi))
    have hix : Lib.idxBy (fun _ (y : {q : Pl // ok q}) => p y.1) (l'.take l.length) default = ixOf p l := by
      rw [← hlen, List.take_length]
      rw [idx_ix (fun y : {q : Pl // ok q} => p y.1) (fun y : {q : Pl // ok q} => p y.1) default l' l' rfl fun j h1 h2 => rfl]
      rw [← hl', ixOf, ixOf, List.findIdx?_map]
      rfl
    rw [hix] at hcon
    exact hcon
/-- the zero value of a place -/
theorem zeroPl (W : World) : (zeroValue 33).run Tryz.prog W = .ok (.agg #[.int .i64 0, .int .i64 0, .int .i64 0]) W := Tryz.zeroValue33 W
set_option maxHeartbeats 4000000 in
set_option maxRecDepth 100000 in
/-- one place taken out -/
theorem delete_walk (rs : List Pl) (i : Nat) (hi : i < rs.length) (base g vc : Nat) (w : World) (hl : rs.length ≤ 4000000) (h : Own w base 33 3 (some ⟨g, 0, none⟩) vc rs.length (rs.flatMap plC)) :
    Calls Tryz.prog 56 #[.slice (some ⟨g, 0, none⟩) rs.length vc, .int .i64 i, .int .i64 ((i : Int) + 1)] w fun e w' => e = .returned (.slice (some ⟨g, 0, none⟩) (rs.eraseIdx i).length vc) ∧
      Own w' base 33 3 (some ⟨g, 0, none⟩) vc (rs.eraseIdx i).length ((rs.eraseIdx i).flatMap plC) ∧ w.grownBy w' (some g) := by
  have hel : (rs.eraseIdx i).length = rs.length - 1 := List.length_eraseIdx_of_lt hi
  obtain ⟨hcap, hcm⟩ := h.cap
  have hfl := h.length
  have hd := h.drew
  obtain ⟨wa, hwa⟩ : ∃ wa, w.drew.setCells g (i * 3) ((rs.flatMap plC).drop ((i + 1) * 3)) = wa := ⟨_, rfl⟩
  have hone : ∀ u ∈ rs.flatMap plC, u.oneCell' = true := fun u hu => by
    obtain ⟨p, -, hp⟩ := List.mem_flatMap.1 hu
    simp only [plC, List.mem_cons, List.not_mem_nil, or_false] at hp
    rcases hp with rfl | rfl | rfl <;> rfl
  have hap := run_append_del elemPl 42 hd hi (if vc = i + 1 then some ⟨g, 0, none⟩ else some ⟨g, (i + 1) * 3, none⟩) (vc - (i + 1)) (fun h0 => by rw [if_neg (by omega)]) hone
  rw [hwa] at hap
  have hod := own_del hd hi [.int .i64 0, .int .i64 0, .int .i64 0] rfl
  rw [hwa, flatMap_erase rs i hi] at hod
  obtain ⟨-, cur, hcg, -, -, hcs, -⟩ := hd.curG
  have hca := heap_setsA ((rs.flatMap plC).drop ((i + 1) * 3)) cur (i * 3) w.drew hcg
  rw [hwa] at hca
  have hcl := run_clear_one (w := wa) (g := g) (T := 42) Tryz.underlying42 zeroPl (k := 3) rfl (by simp [Value.cells]; decide) 0 ((rs.length - 1) * 3) (vc - (rs.length - 1)) (fun j hj => by
    simp only [World.cell?, hca]
    rw [Array.getElem?_eq_getElem (by rw [setsA_size, hcs]; omega)]; rfl) (fun j hj => by simp [World.frozen?, hca])
  have hg1 : w.drew.grownBy wa (some g) := hwa ▸ grown_setCells _ _ _
  have hg2 := grown_setCells (g := g) [.int .i64 0, .int .i64 0, .int .i64 0] ((rs.length - 1) * 3) wa
  have hg0 : w.grownBy w.drew (some g) := ⟨rfl, rfl, rfl, Nat.le_refl _, fun _ _ _ => rfl⟩
  rw [hel]
  have HO := Lib.hid hod
  have HG := Lib.hid ((hg0.trans hg1).trans hg2)
  have HAP := Lib.hid hap
  have HCL := Lib.hid hcl
  have hw1 : IntKind.i64.wrap ((i : Int) + 1) = (i : Int) + 1 := wrap_i64 (by omega) (by omega)
  have i1 : ¬ ((i : Int) = (i : Int) + 1) := by omega
  have i2 : (0 : Int) ≤ (i : Int) := by omega
  have i3 : (i : Int) ≤ (i : Int) + 1 := by omega
  have i4 : (i : Int) + 1 ≤ (rs.length : Int) := by omega
  have i5 : (rs.length : Int) ≤ (vc : Int) := by omega
  have i6 : (i : Int) ≤ (vc : Int) := by omega
  have i7 : (0 : Int) ≤ (i : Int) + 1 := by omega
  clear h hd hwa hone hap hod hcg hca hcl hg1 hg2 hg0 hfl
  go_enter Tryz.func56, Tryz.ntmps56
  go_upto_region 5 with fail
  go_region_held3 (fun _ => True) (exact True.intro)
    (first | (refine step_append_run (by rfl) (.tmp 22) (.tmp 25) 42 (by rfl) (by rfl) (by rfl) HAP.out ?_))
  have i8 : ((rs.length - 1 : Nat) : Int) ≤ (rs.length : Int) := by omega
  have i9 : (0 : Int) ≤ ((rs.length - 1 : Nat) : Int) := by omega
  have i10 : ¬ vc = rs.length - 1 := by omega
  have i11 : rs.length - (rs.length - 1) = 1 := by omega
  go_wp2_with fail
  all_goals
    first | rw [HCL.out] | (have hv : vc = i + 1 := (by assumption); subst hv; rw [HCL.out])
    simp only [Result.andThen_ok, Oper.upon_value]
    go_wp2_with fail
    go_ret
    exact ⟨rfl, HO.out, HG.out⟩
end Go.Proofs.YtfbbkmdhnkmonaaGreatDoor

namespace Go.Proofs.YtfbbkmdhnkmonaaGreatDoor.KM
open Go.RowKit Go.ChangeMaps
open Go.Maps (Keyed)
variable {κ : Type} [DecidableEq κ] {val : κ → Value} {ok : κ → Prop} {P : Program} {T K E : TypeId} {w : World} {b : Nat} {ents : Ents κ}

/-- 'm[k] = append(m[k], ..)': the entry, and what is stored in it -/
theorem MapIs.entry (h : MapIs val ok w b ents) (hT : P.underlying T = some (.map K E)) (L : Enc P K val ok) {z : Value} (hz : ∀ W, (zeroValue E).run P W = .ok z W) {k : κ} (hk : ok k) :
    ∃ (st : Nat) (w1 : World), (Instr.mapEntry T (.map (some b)) (val k)).run P w = .ok (.tuple #[(getM ents k).getD z, goInt st]) w1 ∧ w.grownBy w1 (some b) ∧ w1.heap.size = w.heap.size ∧
      ∀ (W : World) (v : Value), W.heap[b]? = w1.heap[b]? → ∃ W', (Instr.entryStore T (.map (some b)) (goInt st) v).run P W = .ok () W' ∧ MapIs val ok W' b (putM ents k v) ∧ W.grownBy W' (some b) ∧ W'.heap.size = W.heap.size := by
  obtain ⟨kl, hkl⟩ := L.key k hk
  have hblt := h.lt
  rcases h.find L hk w with ⟨h1, h2⟩ | ⟨i, hi, h1, h2, h3⟩
  · have e : (entsL val ents).toArray.push { key := val k, val := z, born := ents.length } = (entsL val (putM ents k z)).toArray := by
      rw [putM_new h2, entsL_snoc]
      simp [entOf]
    have hp : ∀ v, mapObj val (putM ents k v) = .map ((entsL val ents).toArray.push { key := val k, val := v, born := ents.length }) (ents.length + 1) := fun v => by
      rw [mapObj, putM_new h2, entsL_snoc]; simp [entOf]
    refine ⟨ents.length, setBlock w b (mapObj val (putM ents k z)), ?_, ⟨rfl, rfl, rfl, by simp [setBlock], fun i _ hi => heap_setBlock_other h.heap _ (fun e => hi (by rw [e]))⟩, by simp [setBlock], fun W v hW => ?_⟩
    · rw [hp]
      simp [Instr.mapEntry, run_underlying hT, MapKept.run_getObj_map h.heap, L.law.check w _ hkl, h1, hz, Result.andThen, MapKept.run_setObj_map _ h.heap, h2, setBlock]
    · have hW' : W.heap[b]? = some (.map ((entsL val ents).toArray.push { key := val k, val := z, born := ents.length }) (ents.length + 1)) := by
        rw [hW, heap_setBlock_same h.heap, hp]
      have hidx : ((entsL val ents).toArray.push { key := val k, val := z, born := ents.length }).findIdx? (fun e => ((e.born : Nat) : Int) == ((ents.length : Nat) : Int)) = some ents.length := by
        rw [WideElems.findIdx_arr]
        have := WideElems.findIdx_born (l := ((entsL val ents).toArray.push { key := val k, val := z, born := ents.length }).toList) (j := ents.length) (e0 := { key := val k, val := z, born := ents.length }) (by
          simp only [Array.toList_push, List.map_append, List.map_cons, List.map_nil, entsL_born]
          rw [← List.range_succ]; exact List.nodup_range) (by simp [entsL_length])
        exact this
      have hmod : ((entsL val ents).toArray.push { key := val k, val := z, born := ents.length }).modify ents.length (fun e => { e with val := v }) = (entsL val ents).toArray.push { key := val k, val := v, born := ents.length } := by
        apply Array.ext'
        rw [Array.toList_modify, Array.toList_push, Array.toList_push]
        have := WideElems.modify_last (fun e : MapEntry => { e with val := v }) { key := val k, val := z, born := ents.length } (entsL val ents)
        rw [entsL_length] at this
        exact this
      refine ⟨setBlock W b (mapObj val (putM ents k v)), ?_, ⟨heap_setBlock_same hW' _, ?_, ?_⟩, ⟨rfl, rfl, rfl, by simp [setBlock], fun i _ hi => heap_setBlock_other hW' _ (fun e => hi (by rw [e]))⟩, by simp [setBlock]⟩
      · rw [hp]
        simp only [Instr.entryStore, Sem.run_bind, MapKept.run_getObj_map hW', Result.andThen, asInt, asIntOf, goInt, Sem.run_pure, hidx, hmod, MapKept.run_setObj_map _ hW', setBlock]
      · rw [putM_new h2, List.map_append, List.nodup_append]
        refine ⟨h.nodup, by simp, ?_⟩
        intro a ha c hc
        simp at hc
        obtain ⟨x, hx, rfl⟩ := List.mem_map.1 ha
        rw [hc]
        exact getM_none.1 h2 x hx
      · intro x hx
        rcases mem_putM hx with h' | rfl
        · exact h.short x h'
        · exact hk
  · have hst := L.law.stays w hkl
    have hej : (entsL val ents)[i]? = some (entOf val i ents[i]) := entsL_get ents i hi
    have hsame : (entsL val ents).toArray.modify i (fun e => { e with key := val k }) = (entsL val ents).toArray := by
      apply Array.ext'
      rw [Array.toList_modify]
      apply List.ext_getElem
      · simp
      · intro j j1 j2
        simp only [List.getElem_modify]
        by_cases hij : i = j
        · subst hij
          simp only [if_true]
          simp [entsL, entOf, h2]
        · simp [hij]
    have hl : ∀ v, (putM ents k v).length = ents.length := fun v => by
      have := congrArg List.length (putM_keys_old (v := v) h3)
      simpa using this
    refine ⟨i, w, ?_, World.grownBy.refl _ _, rfl, fun W v hW => ?_⟩
    · have hs : setBlock w b (.map (entsL val ents).toArray ents.length) = w := by
        have := h.heap
        simp only [setBlock]
        have hh : w.heap.setIfInBounds b (mapObj val ents) = w.heap := by
          apply Array.ext_getElem?
          intro j
          rw [Array.getElem?_setIfInBounds]
          by_cases hj : b = j
          · subst hj; rw [if_pos rfl, if_pos hblt]; exact this.symm
          · simp [hj]
        show { w with heap := w.heap.setIfInBounds b (mapObj val ents) } = w
        rw [hh]
      have hr := MapKept.run_setObj_map (P := P) (.map (entsL val ents).toArray ents.length) h.heap
      simp [Instr.mapEntry, run_underlying hT, MapKept.run_getObj_map h.heap, L.law.check w _ hkl, h1, Result.andThen, hej, h3, entOf]
      have hsameL : (entsL val ents).modify i (fun e => { key := val k, val := e.val, born := e.born }) = entsL val ents := by
        have := congrArg Array.toList hsame
        rw [Array.toList_modify] at this
        exact this
      rw [h2, hst]
      simp only [hsameL, hr]
      exact congrArg (Result.ok _) hs
    · have hW' : W.heap[b]? = some (.map (entsL val ents).toArray ents.length) := by rw [hW]; exact h.heap
      have hidx : (entsL val ents).toArray.findIdx? (fun e => ((e.born : Nat) : Int) == ((i : Nat) : Int)) = some i := by
        rw [WideElems.findIdx_arr]
        exact WideElems.findIdx_born (l := entsL val ents) (e0 := entOf val i ents[i]) (by rw [entsL_born]; exact List.nodup_range) hej
      have hmod : (entsL val ents).toArray.modify i (fun e => { e with val := v }) = (entsL val (putM ents k v)).toArray := by
        rw [← entsL_put hi h2 h.nodup]
        apply Array.ext'
        rw [Array.toList_modify]
        apply List.ext_getElem
        · simp
        · intro j j1 j2
          simp only [List.getElem_modify]
          by_cases hij : i = j
          · subst hij
            simp [entsL, entOf, h2]
          · simp [hij]
      refine ⟨setBlock W b (mapObj val (putM ents k v)), ?_, ⟨heap_setBlock_same hW' _, ?_, ?_⟩, ⟨rfl, rfl, rfl, by simp [setBlock], fun i _ hi => heap_setBlock_other hW' _ (fun e => hi (by rw [e]))⟩, by simp [setBlock]⟩
      · rw [mapObj, hl]
        simp only [Instr.entryStore, Sem.run_bind, MapKept.run_getObj_map hW', Result.andThen, asInt, asIntOf, goInt, Sem.run_pure, hidx, hmod, MapKept.run_setObj_map _ hW', setBlock]
      · rw [putM_keys_old h3]; exact h.nodup
      · intro x hx
        rcases mem_putM hx with h' | rfl
        · exact h.short x h'
        · exact hk
end Go.Proofs.YtfbbkmdhnkmonaaGreatDoor.KM
