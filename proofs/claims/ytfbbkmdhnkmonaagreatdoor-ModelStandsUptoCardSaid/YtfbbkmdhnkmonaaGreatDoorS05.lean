/- package guard: is, need, name, two. Maps keyed by texts that a call makes itself, their entries written out in the order in which they came. -/
import Derived.Test.YtfbbkmdhnkmonaaGreatDoorS04
import Derived.Test.YtfbbkmdhnkmonaaGreatDoorS01
import Derived.Maps.Keyed
import Derived.Maps.RangeRun
import Derived.Maps.Own
namespace Go.Proofs.YtfbbkmdhnkmonaaGreatDoor
open Go.RowKit

/-- a token that a step told -/
def TokOk (now : ByteArray) : Prop := now.size = 0 ∨ ∃ l : List UInt8, now.data.toList = l.take (longB l) ∧ 0 < longB l
/-- a reader's state that steps came to -/
structure GS (s : ByteArray) (st : GSt) : Prop where
  le : st.i ≤ s.size
  pos : st.pos ≤ st.i
  tok : TokOk st.now
  adv : st.now.size = 0 ∨ st.pos < st.i
  short : st.now.size ≤ s.size
theorem step_gs {s : ByteArray} {i : Nat} {st : GSt} (hi : i ≤ s.size) (h : stepB s i = .ok st) : GS s st ∧ i ≤ st.pos := by
  obtain ⟨_, h2, h3, h4, h5⟩ := stepB_ok hi h
  refine ⟨⟨h2, h3, ?_, h5.imp id And.left, by rcases h5 with h5 | h5 <;> omega⟩, h4⟩
  unfold stepB at h
  split at h
  · injection h with h; subst h; exact .inl rfl
  · split at h
    · cases h
    · rename_i h0
      injection h with h; subst h
      refine .inr ⟨s.data.toList.drop (fromB s i), ?_, by omega⟩
      simp only [ByteArray.data_extract, Array.toList_extract]
      show (s.data.toList.drop (fromB s i)).take (fromB s i + longB (s.data.toList.drop (fromB s i)) - fromB s i) = _
      rw [Nat.add_sub_cancel_left]

def AdvE (R : Nat) (s : ByteArray) (r : Except Nat GSt) (v : Value) (w : World) (e : Ending) (w' : World) : Prop :=
  KeepR R w w' ∧ match r with
    | .ok st => e = .returned v ∧ RdIs R w' s st
    | .error a => e = faultE a
set_option maxHeartbeats 2000000 in
set_option maxRecDepth 100000 in
theorem is_yes (R : Nat) (s : ByteArray) (st : GSt) (w : World) (hs : s.size ≤ 17000) (hi : st.i ≤ s.size) (h : RdIs R w s st) (hv : GW R w) :
    Calls Tryz.prog 173 #[.pointer (some ⟨R, 0, none⟩), .string st.now] w (AdvE R s (stepB s st.i) (.bool true) w) := by
  have HS := Lib.hid (step_walk R s st w hs hi h hv)
  generalize stepB s st.i = X at *
  obtain ⟨x0, x1, x2, x3⟩ := rd_cells h
  clear h hv
  go_enter Tryz.func173, Tryz.ntmps173
  go_wp2_with fail
  refine HS.out.mono ?_
  rintro e w2 ⟨hk, h2⟩
  have HK := Lib.hid hk
  clear hk HS
  cases X with
  | error a =>
    simp only at h2
    subst h2
    exact ⟨rfl, HK.out, rfl⟩
  | ok st1 =>
    obtain ⟨rfl, h3⟩ := h2
    have HR := Lib.hid h3
    clear h3
    go_wp2_with fail
    go_ret
    exact ⟨HK.out, rfl, HR.out⟩
set_option maxHeartbeats 2000000 in
set_option maxRecDepth 100000 in
theorem is_no (R : Nat) (s : ByteArray) (st : GSt) (x : ByteArray) (w : World) (hx : ¬ st.now = x) (h : RdIs R w s st) :
    Calls Tryz.prog 173 #[.pointer (some ⟨R, 0, none⟩), .string x] w fun e w' => e = .returned (.bool false) ∧ w = w' := by
  obtain ⟨x0, x1, x2, x3⟩ := rd_cells h
  have g : (st.now.toList == x.toList) = false := by rw [ba_eq]; exact decide_eq_false hx
  clear h
  go_enter Tryz.func173, Tryz.ntmps173
  go_wp2_with fail
  go_ret
  exact ⟨rfl, rfl⟩
set_option maxHeartbeats 2000000 in
set_option maxRecDepth 100000 in
theorem need_walk (R : Nat) (s : ByteArray) (st : GSt) (x : ByteArray) (w : World) (hs : s.size ≤ 17000) (hi : st.i ≤ s.size) (h : RdIs R w s st) (hv : GW R w) :
    Calls Tryz.prog 200 #[.pointer (some ⟨R, 0, none⟩), .string x] w (AdvE R s (needB s x st) (.tuple #[]) w) := by
  obtain ⟨x0, x1, x2, x3⟩ := rd_cells h
  by_cases hx : st.now = x
  · subst hx
    rw [needB, if_pos rfl]
    have HS := Lib.hid (is_yes R s st w hs hi h hv)
    generalize stepB s st.i = X at *
    clear h hv
    go_enter Tryz.func200, Tryz.ntmps200
    go_wp2_with fail
    refine HS.out.mono ?_
    rintro e w2 ⟨hk, h2⟩
    have HK := Lib.hid hk
    clear hk HS
    cases X with
    | error a =>
      simp only at h2
      subst h2
      exact ⟨rfl, HK.out, rfl⟩
    | ok st1 =>
      obtain ⟨rfl, h3⟩ := h2
      have HR := Lib.hid h3
      clear h3
      go_wp2_with fail
      go_end0
      exact ⟨HK.out, rfl, HR.out⟩
  · rw [needB, if_neg hx]
    have HS := Lib.hid (is_no R s st x w hx h)
    clear h hv
    go_enter Tryz.func200, Tryz.ntmps200
    go_wp2_with fail
    refine HS.out.mono ?_
    rintro e w2 ⟨rfl, rfl⟩
    clear HS
    go_wp2_with fail
    exact ⟨rfl, KeepR.refl _ _, rfl⟩
set_option maxHeartbeats 2000000 in
set_option maxRecDepth 100000 in
theorem name_walk (R : Nat) (s : ByteArray) (st : GSt) (w : World) (hs : s.size ≤ 17000) (hi : st.i ≤ s.size) (h : RdIs R w s st) (hv : GW R w) :
    Calls Tryz.prog 201 #[.pointer (some ⟨R, 0, none⟩)] w (AdvE R s (if namedG st.now = true then stepB s st.i else .error st.pos) (.string st.now) w) := by
  obtain ⟨x0, x1, x2, x3⟩ := rd_cells h
  have HN := Lib.hid (fun W => namedG_walk st.now W)
  have HSS := Lib.hid (fun (W : World) (h : RdIs R W s st) (hv : GW R W) => step_walk R s st W hs hi h hv)
  generalize stepB s st.i = X at *
  have HR0 := Lib.hid h
  have HV0 := Lib.hid hv
  clear h hv
  generalize namedG st.now = nb at *
  cases nb with
  | false =>
    rw [if_neg (by decide)]
    go_enter Tryz.func201, Tryz.ntmps201
    go_wp2_with fail
    refine (HN.out _).mono ?_
    rintro e w2 ⟨rfl, hb⟩
    have HR1 : Hid (RdIs R w2 s st) := ⟨(hb.block R (Arr.lt HR0.out)).trans HR0.out.heap⟩
    have HB := Lib.hid hb
    obtain ⟨y0, y1, y2, y3⟩ := rd_cells HR1.out
    clear hb HN
    go_wp2_with fail
    exact ⟨rfl, KeepR.of HB.out, rfl⟩
  | true =>
    rw [if_pos rfl]
    go_enter Tryz.func201, Tryz.ntmps201
    go_wp2_with fail
    refine (HN.out _).mono ?_
    rintro e w2 ⟨rfl, hb⟩
    have HR1 : Hid (RdIs R w2 s st) := ⟨(hb.block R (Arr.lt HR0.out)).trans HR0.out.heap⟩
    have HB := Lib.hid hb
    have HS := Lib.hid (HSS.out w2 HR1.out (HV0.out.keep (.of hb)))
    clear hb HN
    go_wp2_with fail
    refine HS.out.mono ?_
    rintro e w3 ⟨hk, h2⟩
    have HK := Lib.hid ((KeepR.of HB.out).trans hk)
    clear hk HS
    cases X with
    | error a =>
      simp only at h2
      subst h2
      exact ⟨rfl, HK.out, rfl⟩
    | ok st1 =>
      obtain ⟨rfl, h3⟩ := h2
      have HR := Lib.hid h3
      clear h3
      go_wp2_with fail
      go_ret
      exact ⟨HK.out, rfl, HR.out⟩
theorem results_cellG {fn : Func} {p : Tmp} {ty : TypeId} (h : fn.results = #[.cell p ty]) (tmps : Array Value) (P : Program) (w : World) :
    (results fn tmps).run P w = ((asAddr (tmps.getD p undef)).run P w).andThen fun a w₁ => (loadVar ty a).run P w₁ := by
  simp only [results, h]
  simp [Sem.run_bind, Result.andThen]
theorem size_alloc (w : World) (o : Obj) : (w.alloc o).heap.size = w.heap.size + 1 := by
  rw [show (w.alloc o).heap = w.heap.push o from rfl, Array.size_push]
theorem alloc_at {w : World} {o : Obj} {k : Nat} (h : k = w.heap.size) : (w.alloc o).heap[k]? = some o := by
  subst h
  rw [show (w.alloc o).heap = w.heap.push o from rfl, Array.getElem?_push_size]
theorem ret_guard {fn : Func} {p : Tmp} {g : Nat} {w : World} {a : Act} {cs : List Value} {R : Ending → World → Prop} (h : fn.results = #[.cell p 80]) (hp : a.tmps.getD p undef = .pointer (some ⟨g, 0, none⟩))
    (hd : a.defers = []) (hl : cs.length = 4) (hA : Arr w g 80 cs) (hR : R (.returned (.agg cs.toArray)) w) : bodyPost Tryz.prog fn R .ret a w := by
  refine bodyPost_ret ?_ hd hR
  rw [results_cellG h, hp]
  simp only [asAddr, Sem.run_pure, Result.andThen_ok]
  exact run_loadVar_mid w g 0 _ cs _ hA.range Tryz.underlying80 rfl (by rw [hl]; kernel_rfl)
set_option maxHeartbeats 2000000 in
set_option maxRecDepth 100000 in
theorem two_walk (X : Nat → Prop) (k : Nat) (a b : GT) (da db : List Value) (w : World) (hX : ∀ k, X k → k < w.heap.size) (ha : GIs X w a da) (hb : GIs X w b db) :
    Calls Tryz.prog 144 #[.int .u8 k, .agg da.toArray, .agg db.toArray] w fun e w' => Below w.heap.size w w' ∧ ∃ cs : List Value, e = .returned (.agg cs.toArray) ∧ GIs X w' (.two k a b) cs := by
  have HA := Lib.hid ha
  have HB := Lib.hid hb
  obtain ⟨k1, n1, s1, a1, l1, c1, rfl⟩ := ha.four
  obtain ⟨k2, n2, s2, a2, l2, c2, rfl⟩ := hb.four
  clear ha hb
  go_enter Tryz.func144, Tryz.ntmps144
  go_wp2_with fail
  refine ret_guard rfl (g := w.heap.size + 1 + 1) (cs := [.int .u8 k, .int .i64 0, .string ⟨#[]⟩, .slice (some ⟨w.heap.size + 1 + 1 + 1, 0, none⟩) 2 2]) rfl rfl rfl (Arr.alloc ⟨alloc_at (by rw [size_alloc, size_alloc])⟩ _) ?_
  have hbel : Below w.heap.size w _ := ((((Below.refl w.heap.size w).alloc (Nat.le_refl _) (.cells #[.int .u8 k1, .int .i64 n1, .string s1, .slice a1 l1 c1] 80)).alloc (by simp) (.cells #[.int .u8 k2, .int .i64 n2, .string s2, .slice a2 l2 c2] 80)).alloc (by simp <;> omega) (.cells #[.int .u8 k, .int .i64 0, .string ⟨#[]⟩, .slice (some ⟨w.heap.size + 1 + 1 + 1, 0, none⟩) 2 2] 80)).alloc (by simp <;> omega) (.cells #[.int .u8 k1, .int .i64 n1, .string s1, .slice a1 l1 c1, .int .u8 k2, .int .i64 n2, .string s2, .slice a2 l2 c2] 80)
  exact ⟨hbel, _, rfl, _, _, _, rfl, fun hx => by have := hX _ hx; omega, ⟨alloc_at (by rw [size_alloc, size_alloc, size_alloc])⟩, HA.out.below hbel, HB.out.below hbel⟩
end Go.Proofs.YtfbbkmdhnkmonaaGreatDoor

namespace Go.Proofs.YtfbbkmdhnkmonaaGreatDoor
open Go.RowKit Go.ChangeMaps
open Go.Maps (Keyed)

abbrev Ents := List (ByteArray × Value)
def entOf (i : Nat) (x : ByteArray × Value) : MapEntry := ⟨.string x.1, x.2, i⟩
def entsL (ents : Ents) : List MapEntry := ents.mapIdx entOf
def mapObj (ents : Ents) : Obj := .map (entsL ents).toArray ents.length

structure MapIs (w : World) (b : Nat) (ents : Ents) : Prop where
  heap : w.heap[b]? = some (mapObj ents)
  nodup : (ents.map (·.1)).Nodup
  short : ∀ x ∈ ents, x.1.size ≤ maxLen

def getM : Ents → ByteArray → Option Value
  | [], _ => none
  | x :: r, k => if x.1 = k then some x.2 else getM r k
def putM : Ents → ByteArray → Value → Ents
  | [], k, v => [(k, v)]
  | x :: r, k, v => if x.1 = k then (k, v) :: r else x :: putM r k v

theorem getM_none {ents : Ents} {k : ByteArray} : getM ents k = none ↔ ∀ x ∈ ents, x.1 ≠ k := by
  induction ents with
  | nil => simp [getM]
  | cons x r ih =>
    simp only [getM]
    by_cases h : x.1 = k
    · simp [h]
    · simp [h, ih]
theorem getM_some {ents : Ents} {k : ByteArray} {v : Value} (h : getM ents k = some v) : (k, v) ∈ ents := by
  induction ents with
  | nil => simp [getM] at h
  | cons x r ih =>
    simp only [getM] at h
    by_cases hk : x.1 = k
    · simp only [hk, if_true, Option.some.injEq] at h
      obtain ⟨x1, x2⟩ := x
      simp at hk h
      simp [hk, h]
    · simp only [hk, if_false] at h
      simp [ih h]
theorem putM_keys_old {ents : Ents} {k : ByteArray} {v u : Value} (h : getM ents k = some u) : (putM ents k v).map (·.1) = ents.map (·.1) := by
  induction ents with
  | nil => simp [getM] at h
  | cons x r ih =>
    simp only [getM] at h
    by_cases hk : x.1 = k
    · simp [putM, hk]
    · simp only [hk, if_false] at h
      simp [putM, hk, ih h]
theorem putM_new {ents : Ents} {k : ByteArray} {v : Value} (h : getM ents k = none) : putM ents k v = ents ++ [(k, v)] := by
  induction ents with
  | nil => rfl
  | cons x r ih =>
    simp only [getM] at h
    by_cases hk : x.1 = k
    · simp [hk] at h
    · simp only [hk, if_false] at h
      simp [putM, hk, ih h]
theorem mem_putM {ents : Ents} {k : ByteArray} {v : Value} {x : ByteArray × Value} (h : x ∈ putM ents k v) : x ∈ ents ∨ x = (k, v) := by
  induction ents with
  | nil => simpa [putM] using h
  | cons y r ih =>
    simp only [putM] at h
    split at h
    · rcases List.mem_cons.1 h with h | h
      · exact .inr h
      · exact .inl (by simp [h])
    · rcases List.mem_cons.1 h with h | h
      · exact .inl (by simp [h])
      · rcases ih h with h | h
        · exact .inl (by simp [h])
        · exact .inr h

theorem sb_same {w : World} {b : Nat} (hb : b < w.heap.size) (o : Obj) : (setBlock w b o).heap[b]? = some o := by simp [setBlock, hb]
theorem sb_other (w : World) {b : Nat} (o : Obj) {i : Nat} (h : i ≠ b) : (setBlock w b o).heap[i]? = w.heap[i]? := by simp [setBlock, Ne.symm h]

theorem entsL_length (ents : Ents) : (entsL ents).length = ents.length := by simp [entsL]
theorem entsL_get (ents : Ents) (i : Nat) (h : i < ents.length) : (entsL ents)[i]? = some (entOf i ents[i]) := by simp [entsL, h]
theorem mem_entsL {ents : Ents} {e : MapEntry} (h : e ∈ entsL ents) : ∃ i, ∃ hi : i < ents.length, e = entOf i ents[i] := by
  obtain ⟨i, hi, rfl⟩ := List.mem_iff_getElem.1 h
  have hi' : i < ents.length := by simpa [entsL] using hi
  exact ⟨i, hi', by simp [entsL]⟩
theorem entsL_born (ents : Ents) : (entsL ents).map (·.born) = List.range ents.length := by
  apply List.ext_getElem
  · simp [entsL]
  · intro i h1 h2
    simp [entsL, entOf]

section
variable {P : Program} {T K E : TypeId} {w : World} {b : Nat} {ents : Ents}

theorem key_str (hK : P.underlying K = some .string) {k : ByteArray} (hk : k.size ≤ maxLen) : keyOf P K (.string k) = some (.string k.data.toList) := by
  simp [keyOf, hK, mapKey, hk]

theorem MapIs.lt (h : MapIs w b ents) : b < w.heap.size := (Array.getElem?_eq_some_iff.1 h.heap).1
theorem MapIs.kept {w' : World} (h : MapIs w b ents) (hh : w'.heap[b]? = w.heap[b]?) : MapIs w' b ents := ⟨hh.trans h.heap, h.nodup, h.short⟩
theorem MapIs.below {B : Nat} {w' : World} (h : MapIs w b ents) (hb : Below B w w') (hB : b < B) : MapIs w' b ents := h.kept (hb.block b hB)
theorem MapIs.alloc (h : MapIs w b ents) (o : Obj) : MapIs (w.alloc o) b ents := h.kept (Below.heap_alloc w o b h.lt)
theorem MapIs.setCell (h : MapIs w b ents) {a : Addr} (hne : b ≠ a.block) (u : Value) : MapIs (w.setCell a u) b ents := h.kept (Below.heap_setCell w a u b hne)
theorem MapIs.made (w : World) : MapIs (w.alloc (.map #[] 0)) w.heap.size [] := ⟨(MapKept.heap_alloc w _).1, by simp, by simp⟩

theorem MapIs.find (h : MapIs w b ents) (hK : P.underlying K = some .string) {k : ByteArray} (hk : k.size ≤ maxLen) (W : World) :
    ((Instr.findKey K (.string k) (entsL ents)).run P W = .ok none W ∧ getM ents k = none) ∨
    ∃ i, ∃ hi : i < ents.length, (Instr.findKey K (.string k) (entsL ents)).run P W = .ok (some (i, ents[i].2)) W ∧ ents[i].1 = k ∧ getM ents k = some ents[i].2 := by
  have L : Keyed P K := Maps.string_keyed hK
  rcases L.find W (key_str hK hk) (entsL ents) (fun e he => by
      obtain ⟨i, hi, rfl⟩ := mem_entsL he
      exact ⟨_, key_str hK (h.short _ (List.getElem_mem hi))⟩) with ⟨h1, h2⟩ | ⟨j, e, h1, h2, h3⟩
  · refine .inl ⟨h1, getM_none.2 fun x hx hxk => ?_⟩
    obtain ⟨i, hi, rfl⟩ := List.mem_iff_getElem.1 hx
    exact h2 _ (List.mem_of_getElem? (entsL_get ents i hi)) (by simp [entOf, hxk])
  · right
    have hj : j < ents.length := by
      rcases Nat.lt_or_ge j ents.length with h | h
      · exact h
      · rw [List.getElem?_eq_none (by rw [entsL_length]; exact h)] at h2; cases h2
    rw [entsL_get ents j hj] at h2
    injection h2 with h2
    subst h2
    have hk' : ents[j].1 = k := by simpa [entOf] using h3
    refine ⟨j, hj, h1, hk', ?_⟩
    have hn := h.nodup
    clear h1 h3 h
    induction ents generalizing j with
    | nil => simp at hj
    | cons x r ih =>
      cases j with
      | zero => simp at hk'; simp [getM, hk']
      | succ j =>
        simp at hk'
        simp only [List.map_cons, List.nodup_cons] at hn
        have hne : x.1 ≠ k := by
          intro he
          exact hn.1 (by rw [he, ← hk']; exact List.mem_map_of_mem (List.getElem_mem (by simpa using hj)))
        simp only [getM, hne, if_false, List.getElem_cons_succ]
        exact ih j (by simpa using hj) hk' hn.2

/-- 'v, ok := m[k]' -/
theorem MapIs.lookup (h : MapIs w b ents) (hT : P.underlying T = some (.map K E)) (hK : P.underlying K = some .string) {z : Value} (hz : ∀ W, (zeroValue E).run P W = .ok z W) {k : ByteArray} (hk : k.size ≤ maxLen) :
    (Instr.lookup T (.map (some b)) (.string k) true).run P w = .ok (.tuple #[(getM ents k).getD z, .bool (getM ents k).isSome]) w := by
  have L : Keyed P K := Maps.string_keyed hK
  rcases h.find hK hk w with ⟨h1, h2⟩ | ⟨i, hi, h1, h2, h3⟩
  · simp [Instr.lookup, run_underlying hT, MapKept.run_getObj_map h.heap, L.check w _ (key_str hK hk), h1, hz, Result.andThen, h2]
  · simp [Instr.lookup, run_underlying hT, MapKept.run_getObj_map h.heap, L.check w _ (key_str hK hk), h1, Result.andThen, h3]

/-- 'len(m)' -/
theorem MapIs.len (h : MapIs w b ents) (hT : P.underlying T = some (.map K E)) (ty : TypeId) : (Builtin.len_ #[T] ty #[.map (some b)]).run P w = .ok (.int .i64 ents.length) w := by
  simp [Builtin.len_, run_underlying hT, MapKept.run_getObj_map h.heap, Result.andThen, entsL, goInt]

theorem entsL_snoc (ents : Ents) (x : ByteArray × Value) : entsL (ents ++ [x]) = entsL ents ++ [entOf ents.length x] := by simp [entsL, List.mapIdx_append]
theorem entsL_put {ents : Ents} {k : ByteArray} {v : Value} {i : Nat} (hi : i < ents.length) (hk : ents[i].1 = k) (hn : (ents.map (·.1)).Nodup) :
    (entsL ents).modify i (fun e => { e with key := .string k, val := v }) = entsL (putM ents k v) := by
  have h1 : putM ents k v = ents.set i (k, v) := by
    induction ents generalizing i with
    | nil => simp at hi
    | cons x r ih =>
      cases i with
      | zero => simp at hk; simp [putM, hk]
      | succ i =>
        simp at hk
        simp only [List.map_cons, List.nodup_cons] at hn
        have hne : x.1 ≠ k := by
          intro he
          exact hn.1 (by rw [he, ← hk]; exact List.mem_map_of_mem (List.getElem_mem (by simpa using hi)))
        simp only [putM, hne, if_false, List.set_cons_succ]
        rw [ih (by simpa using hi) hk hn.2]
  rw [h1]
  apply List.ext_getElem
  · simp [entsL]
  · intro j h2 h3
    simp only [entsL, List.getElem_modify, List.getElem_mapIdx, List.getElem_set]
    by_cases hj : i = j
    · subst hj; simp [entOf]
    · simp [hj]

/-- 'm[k] = v' -/
theorem MapIs.update (h : MapIs w b ents) (hT : P.underlying T = some (.map K E)) (hK : P.underlying K = some .string) {k : ByteArray} (hk : k.size ≤ maxLen) (v : Value) :
    ∃ w', (Instr.mapUpdate T (.map (some b)) (.string k) v).run P w = .ok () w' ∧ MapIs w' b (putM ents k v) ∧ w.grownBy w' (some b) ∧ w'.heap.size = w.heap.size := by
  have L : Keyed P K := Maps.string_keyed hK
  rcases h.find hK hk w with ⟨h1, h2⟩ | ⟨i, hi, h1, h2, h3⟩
  · have e : (entsL ents).toArray.push { key := .string k, val := v, born := ents.length } = (entsL (putM ents k v)).toArray := by
      rw [putM_new h2, entsL_snoc]
      simp [entOf]
    refine ⟨setBlock w b (mapObj (putM ents k v)), ?_, ⟨heap_setBlock_same h.heap _, ?_, ?_⟩, ⟨rfl, rfl, rfl, by simp [setBlock], fun i _ hi => heap_setBlock_other h.heap _ (fun e => hi (by rw [e]))⟩, by simp [setBlock]⟩
    · simp [Instr.mapUpdate, run_underlying hT, MapKept.run_getObj_map h.heap, L.check w _ (key_str hK hk), h1, Result.andThen, MapKept.run_setObj_map _ h.heap]
      rw [show mapObj (putM ents k v) = .map ((entsL ents).toArray.push { key := .string k, val := v, born := ents.length }) (ents.length + 1) by rw [e, mapObj, putM_new h2]; simp]
      simp [setBlock]
    · rw [putM_new h2, List.map_append, List.nodup_append]
      refine ⟨h.nodup, by simp, ?_⟩
      intro a ha c hc
      simp at hc
      obtain ⟨x, hx, rfl⟩ := List.mem_map.1 ha
      rw [hc]
      exact getM_none.1 h2 x hx
    · intro x hx
      rcases mem_putM hx with h' | rfl
      · exact h.short x h'
      · exact hk
  · have e : (entsL ents).toArray.modify i (fun e => { e with key := .string k, val := v }) = (entsL (putM ents k v)).toArray := by
      rw [← entsL_put hi h2 h.nodup]
      simp
    have hl : (putM ents k v).length = ents.length := by
      have := congrArg List.length (putM_keys_old (v := v) h3)
      simpa using this
    have hst := L.stays w (key_str hK hk)
    have hkey : ((entsL ents)[i]?.map (·.key)).getD (.string k) = .string k := by rw [entsL_get ents i hi]; simp [entOf, h2]
    refine ⟨setBlock w b (mapObj (putM ents k v)), ?_, ⟨heap_setBlock_same h.heap _, ?_, ?_⟩, ⟨rfl, rfl, rfl, by simp [setBlock], fun i _ hi => heap_setBlock_other h.heap _ (fun e => hi (by rw [e]))⟩, by simp [setBlock]⟩
    · have e2 : (entsL ents).modify i (fun e => { e with key := .string k, val := v }) = entsL (putM ents k v) := entsL_put hi h2 h.nodup
      simp [Instr.mapUpdate, run_underlying hT, MapKept.run_getObj_map h.heap, L.check w _ (key_str hK hk), h1, Result.andThen]
      rw [hkey, hst]
      simp only [e2]
      rw [MapKept.run_setObj_map _ h.heap, mapObj, hl]
      rfl
    · rw [putM_keys_old h3]; exact h.nodup
    · intro x hx
      rcases mem_putM hx with h' | rfl
      · exact h.short x h'
      · exact hk

/-- an iterator over a map, so far at the places that 'seen' lists -/
structure IterIs (w : World) (r b : Nat) (n : Nat) (seen : List Nat) : Prop where
  heap : w.heap[r]? = some (.mapIter (some b) n seen.toArray n)
  inB : ∀ i ∈ seen, i < n
  nodup : seen.Nodup

theorem MapIs.range (h : MapIs w b ents) (hT : P.underlying T = some (.map K E)) : (Instr.range T (.map (some b))).run P w = .ok (.pointer (some ⟨w.heap.size, 0, none⟩)) (w.alloc (.mapIter (some b) ents.length #[] ents.length)) := by
  simp [Instr.range, run_underlying hT, MapKept.run_getObj_map h.heap, Result.andThen, newObj, Sem.run]
theorem IterIs.made (w : World) (b n : Nat) : IterIs (w.alloc (.mapIter (some b) n #[] n)) w.heap.size b n [] := ⟨(MapKept.heap_alloc w _).1, by simp, by simp⟩
theorem IterIs.lt {r n : Nat} {seen : List Nat} (h : IterIs w r b n seen) : r < w.heap.size := (Array.getElem?_eq_some_iff.1 h.heap).1
theorem IterIs.below {B r n : Nat} {seen : List Nat} {w' : World} (h : IterIs w r b n seen) (hb : Below B w w') (hB : r < B) : IterIs w' r b n seen := ⟨(hb.block r hB).trans h.heap, h.inB, h.nodup⟩

/-- one step: nothing is left, or one place that was not seen comes -/
theorem MapIs.next {r : Nat} {seen : List Nat} (h : MapIs w b ents) (hi : IterIs w r b ents.length seen) (ty : TypeId) :
    ((∀ i, i < ents.length → i ∈ seen) ∧ (Instr.next (.pointer (some ⟨r, 0, none⟩)) false ty).run P w = .ok (.tuple #[.bool false]) w) ∨
    ∃ i, ∃ hl : i < ents.length, i ∉ seen ∧ ∃ w', (Instr.next (.pointer (some ⟨r, 0, none⟩)) false ty).run P w = .ok (.tuple #[.bool true, .string ents[i].1, ents[i].2]) w' ∧ MapIs w' b ents ∧ IterIs w' r b ents.length (seen ++ [i]) ∧
      w.grownBy w' (some r) ∧ w'.heap.size = w.heap.size ∧ (Instr.entry (.pointer (some ⟨r, 0, none⟩))).run P w' = .ok (.tuple #[.string ents[i].1, ents[i].2]) w' := by
  have hne : r ≠ b := by
    rintro rfl
    have := hi.heap.symm.trans h.heap
    simp [mapObj] at this
  have hleft : ∀ e, e ∈ (leftOf (entsL ents).toArray seen.toArray).toList ↔ ∃ i, ∃ hl : i < ents.length, e = entOf i ents[i] ∧ i ∉ seen := by
    intro e
    simp only [leftOf, Array.toList_filter, List.mem_filter]
    constructor
    · rintro ⟨h1, h2⟩
      obtain ⟨i, hl, rfl⟩ := mem_entsL h1
      exact ⟨i, hl, rfl, by simpa [entOf] using h2⟩
    · rintro ⟨i, hl, rfl, h2⟩
      exact ⟨List.mem_of_getElem? (entsL_get ents i hl), by simpa [entOf] using h2⟩
  rcases run_next_at (P := P) w ty r b ents.length ents.length seen.toArray (entsL ents).toArray ents.length hi.heap h.heap (fun x hx => by
      obtain ⟨i, hl, rfl⟩ := mem_entsL hx
      exact hl) (Nat.le_refl _) with ⟨h0, hrun⟩ | ⟨e, he, w1, hw1, hrun⟩
  · refine .inl ⟨fun i hl => ?_, hrun⟩
    rcases Classical.em (i ∈ seen) with hs | hs
    · exact hs
    · have := (hleft _).2 ⟨i, hl, rfl, hs⟩
      rw [Array.eq_empty_of_size_eq_zero h0] at this
      simp at this
  · obtain ⟨i, hl, rfl, hs⟩ := (hleft e).1 he
    have hr1 : w1.heap[r]? = some (.mapIter (some b) ents.length seen.toArray ents.length) := by rcases hw1 with rfl | rfl <;> exact hi.heap
    have hb1 : w1.heap[b]? = some (mapObj ents) := by rcases hw1 with rfl | rfl <;> exact h.heap
    have hg1 : w.grownBy w1 (some r) := by rcases hw1 with rfl | rfl <;> exact ⟨rfl, rfl, rfl, Nat.le_refl _, fun _ _ _ => rfl⟩
    have hz1 : w1.heap.size = w.heap.size := by rcases hw1 with rfl | rfl <;> rfl
    have hlt1 : r < w1.heap.size := by rw [hz1]; exact hi.lt
    refine .inr ⟨i, hl, hs, _, hrun, ⟨(sb_other w1 _ (Ne.symm hne)).trans hb1, h.nodup, h.short⟩, ⟨?_, ?_, ?_⟩, ?_, ?_, ?_⟩
    · rw [sb_same hlt1]
      simp [entOf]
    · intro j hj
      rcases List.mem_append.1 hj with hj | hj
      · exact hi.inB j hj
      · simp at hj; omega
    · rw [List.nodup_append]
      refine ⟨hi.nodup, by simp, fun a ha c hc => ?_⟩
      simp at hc
      rintro rfl
      exact hs (hc ▸ ha)
    · exact ⟨hg1.os, hg1.tape, hg1.output, by simp [setBlock, hz1], fun j hj hne' => (sb_other w1 _ (fun e => hne' (by rw [e]))).trans (hg1.block j hj hne')⟩
    · simp [setBlock, hz1]
    · exact run_entry_at _ r b ents.length seen.toArray (entsL ents).toArray ents.length (entOf i ents[i]) (sb_same hlt1 _) ((sb_other w1 _ (Ne.symm hne)).trans hb1) (List.mem_of_getElem? (entsL_get ents i hl)) (by rw [entsL_born]; exact List.nodup_range)
end
end Go.Proofs.YtfbbkmdhnkmonaaGreatDoor
