/- slices.Contains, slices.ContainsFunc at texts. Maps with keys of any kind that a call makes itself, their entries written out in the order in which they came. The places of a model: which they are, how many, in which order. Places as keys of maps. -/
import Derived.Test.YtfbbkmdhnkmonaaGreatDoorS08
import Derived.Test.YtfbbkmdhnkmonaaGreatDoorS02
import Derived.Test.YtfbbkmdhnkmonaaGreatDoorS05
import Derived.DeepKeys4
namespace Go.Proofs.YtfbbkmdhnkmonaaGreatDoor
open Go.RowKit

theorem hasB_mem {l : List ByteArray} {s : ByteArray} : hasB l s = true ↔ s ∈ l := by
  unfold hasB
  rw [List.any_eq_true]
  constructor
  · rintro ⟨e, he, h⟩
    rw [ba_eq, decide_eq_true_eq] at h
    exact h ▸ he
  · intro h
    exact ⟨s, h, by rw [ba_eq]; simp⟩
theorem hasB_containsS (l : List ByteArray) (s : ByteArray) : Lib.containsS l s = hasB l s := by
  rw [Bool.eq_iff_iff, hasB_mem, Lib.containsS_iff]
theorem inStrs (B : Nat) (v : Value) (xs : List ByteArray) (x : ByteArray) (w : World) (hl : xs.length ≤ 9223372036854775807) (h : Strs B w v xs) :
    Calls Tryz.prog 88 #[v, .string x] w fun e w' => e = .returned (.bool (hasB xs x)) ∧ w' = w := by
  rw [← hasB_containsS]
  obtain ⟨a, c, b, o, rfl, hle, ha, hc⟩ := h.cells
  by_cases h0 : 0 < xs.length
  · obtain ⟨rfl, hb⟩ := ha h0
    refine (Tryz.slices_Contains_string b o xs.length c xs x w (Nat.le_refl _) hl (getD_strs hc)).mono ?_
    rintro e w' ⟨rfl, rfl⟩
    exact ⟨by rw [List.take_length], rfl⟩
  · have : xs = [] := List.eq_nil_of_length_eq_zero (by omega)
    subst this
    refine (Tryz.slices_Contains_string_empty a c x w).mono ?_
    rintro e w' ⟨rfl, rfl⟩
    refine ⟨ret_bool ?_, rfl⟩
    cases hcs : Lib.containsS [] x
    · rfl
    · have := (Lib.containsS_iff [] x).1 hcs; cases this
def AnyAt (p : ByteArray → Bool) (xs : List ByteArray) (e : Ending) : Prop := ∃ z : Int, e = .returned (.int .i64 z) ∧ decide (0 ≤ z) = xs.any p
set_option maxHeartbeats 2000000 in
theorem indexStrs (v : Value) (xs : List ByteArray) (p : ByteArray → Bool) (g : Nat) (lb : Array Value) (eg : ∀ args w, (callFunc g args).run Tryz.prog w = .ok (.enter g args) w)
    (w : World) (hl : xs.length ≤ 1000000) (hp : ∀ s ∈ xs, ∀ W, Below w.heap.size w W → Calls Tryz.prog g (#[.string s] ++ lb) W fun e w' => e = .returned (.bool (p s)) ∧ Below W.heap.size W w') (h : Strs w.heap.size w v xs) :
    Calls Tryz.prog 86 #[v, .func (.func g) #[] lb] w fun e w' => AnyAt p xs e ∧ Below w.heap.size w w' := by
  obtain ⟨a, c, b, o, rfl, -, ha, hc⟩ := h.cells
  have HA := Lib.hid ha; have HC := Lib.hid hc; have HP := Lib.hid hp
  clear h ha hc hp
  go_enter Tryz.func86, Tryz.ntmps86
  go_wp2
  go_loopw [8] (fun i wr => ∃ k : Nat, k ≤ xs.length ∧ i = .int .i64 k ∧ Hid (Below w.heap.size w wr) ∧ Hid ((xs.take k).any p = false)) (fun i _ => xs.length - (intOf i).toNat)
  case atStart => exact ⟨0, by omega, rfl, Below.refl _ _, by simp [Hid]⟩
  case round =>
    obtain ⟨k, hk, rfl, hB, hno⟩ := hrel
    by_cases hlt : k < xs.length
    · obtain ⟨rfl, hbl⟩ := HA.out (by omega)
      have x0 := (hB.out.cell (p := ⟨b, o + k, none⟩) hbl).trans (HC.out k hlt)
      have HK := Lib.hid (HP.out xs[k] (List.getElem_mem hlt))
      have i1 : (k : Int) < (xs.length : Int) := by omega
      have hz := hB.out.size
      cases hq : p xs[k]
      · rw [hq] at HK
        have HN : Hid ((xs.take (k + 1)).any p = false) := by
          show _ = _
          rw [List.take_succ_eq_append_getElem hlt, List.any_append, hno.out]; simp [hq]
        obtain ⟨s, hs⟩ : ∃ s, xs[k] = s := ⟨_, rfl⟩
        rw [hs] at x0 HK
        clear hq hno hs
        go_wp2_with fail
        refine (HK.out _ hB.out).mono ?_
        rintro e w2 ⟨rfl, hb2⟩
        have HB2 := Lib.hid (hB.out.trans (hb2.mono hz))
        clear hb2
        go_wp2
        go_roundw
        case rel => exact ⟨k + 1, by omega, by go_num, HB2, HN⟩
        case measure => simp [intOf]; omega
      · rw [hq] at HK
        have HN : Hid (xs.any p = true) := by
          show _ = _
          exact List.any_eq_true.2 ⟨xs[k], List.getElem_mem hlt, hq⟩
        obtain ⟨s, hs⟩ : ∃ s, xs[k] = s := ⟨_, rfl⟩
        rw [hs] at x0 HK
        clear hq hno hs
        go_wp2_with fail
        refine (HK.out _ hB.out).mono ?_
        rintro e w2 ⟨rfl, hb2⟩
        have HB2 := Lib.hid (hB.out.trans (hb2.mono hz))
        clear hb2
        go_wp2
        go_ret
        exact ⟨⟨_, rfl, by rw [HN.out]; simp⟩, HB2.out⟩
    · obtain rfl : k = xs.length := by omega
      have HN : Hid (xs.any p = false) := by
        have := hno.out
        rwa [List.take_length] at this
      clear hno
      go_wp2
      go_ret
      exact ⟨⟨_, rfl, by rw [HN.out]; rfl⟩, hB.out⟩
theorem hasStrs (v : Value) (xs : List ByteArray) (p : ByteArray → Bool) (g : Nat) (lb : Array Value) (eg : ∀ args w, (callFunc g args).run Tryz.prog w = .ok (.enter g args) w)
    (w : World) (hl : xs.length ≤ 1000000) (hp : ∀ s ∈ xs, ∀ W, Below w.heap.size w W → Calls Tryz.prog g (#[.string s] ++ lb) W fun e w' => e = .returned (.bool (p s)) ∧ Below W.heap.size W w') (h : Strs w.heap.size w v xs) :
    Calls Tryz.prog 39 #[v, .func (.func g) #[] lb] w fun e w' => e = .returned (.bool (xs.any p)) ∧ Below w.heap.size w w' := by
  have HI := Lib.hid (indexStrs v xs p g lb eg w hl hp h)
  obtain ⟨a, c, b, o, rfl, -, -, -⟩ := h.cells
  clear h hp
  go_enter Tryz.func39, Tryz.ntmps39
  go_wp2_with fail
  refine HI.out.mono ?_
  rintro e w1 ⟨⟨z, rfl, hz⟩, hb⟩
  have HZ := Lib.hid hz; have HB := Lib.hid hb
  clear hz hb HI
  go_wp2
  go_ret
  exact ⟨ret_bool (by rw [← HZ.out]), HB.out⟩
end Go.Proofs.YtfbbkmdhnkmonaaGreatDoor

namespace Go.Proofs.YtfbbkmdhnkmonaaGreatDoor.KM
open Go.RowKit Go.ChangeMaps
open Go.Maps (Keyed)
open Go.Proofs.YtfbbkmdhnkmonaaGreatDoor (sb_same sb_other)

/-- keys as values -/
structure Enc {κ : Type} (P : Program) (K : TypeId) (val : κ → Value) (ok : κ → Prop) : Prop where
  law : Keyed P K
  inj : ∀ a b, val a = val b → a = b
  key : ∀ k, ok k → ∃ l, keyOf P K (val k) = some l
section
variable {κ : Type} [DecidableEq κ] {val : κ → Value} {ok : κ → Prop}

abbrev Ents (κ : Type) := List (κ × Value)
def entOf (val : κ → Value) (i : Nat) (x : κ × Value) : MapEntry := ⟨val x.1, x.2, i⟩
def entsL (val : κ → Value) (ents : Ents κ) : List MapEntry := ents.mapIdx (entOf val)
def mapObj (val : κ → Value) (ents : Ents κ) : Obj := .map (entsL val ents).toArray ents.length

structure MapIs (val : κ → Value) (ok : κ → Prop) (w : World) (b : Nat) (ents : Ents κ) : Prop where
  heap : w.heap[b]? = some (mapObj val ents)
  nodup : (ents.map (·.1)).Nodup
  short : ∀ x ∈ ents, ok x.1

def getM : Ents κ → κ → Option Value
  | [], _ => none
  | x :: r, k => if x.1 = k then some x.2 else getM r k
def putM : Ents κ → κ → Value → Ents κ
  | [], k, v => [(k, v)]
  | x :: r, k, v => if x.1 = k then (k, v) :: r else x :: putM r k v

theorem getM_none {ents : Ents κ} {k : κ} : getM ents k = none ↔ ∀ x ∈ ents, x.1 ≠ k := by
  induction ents with
  | nil => simp [getM]
  | cons x r ih =>
    simp only [getM]
    by_cases h : x.1 = k
    · simp [h]
    · simp [h, ih]
theorem getM_some {ents : Ents κ} {k : κ} {v : Value} (h : getM ents k = some v) : (k, v) ∈ ents := by
  induction ents with
  | nil => simp [getM] at h
  | cons x r ih =>
    simp only [getM] at h
    by_cases hk : x.1 = k
    · simp only [hk, if_true, Option.some.injEq] at h
      obtain ⟨x1, x2⟩ := x
      simp at hk h
      simp [hk, h]
    · simp only [hk, if_false] at h
      simp [ih h]
theorem putM_keys_old {ents : Ents κ} {k : κ} {v u : Value} (h : getM ents k = some u) : (putM ents k v).map (·.1) = ents.map (·.1) := by
  induction ents with
  | nil => simp [getM] at h
  | cons x r ih =>
    simp only [getM] at h
    by_cases hk : x.1 = k
    · simp [putM, hk]
    · simp only [hk, if_false] at h
      simp [putM, hk, ih h]
theorem putM_new {ents : Ents κ} {k : κ} {v : Value} (h : getM ents k = none) : putM ents k v = ents ++ [(k, v)] := by
  induction ents with
  | nil => rfl
  | cons x r ih =>
    simp only [getM] at h
    by_cases hk : x.1 = k
    · simp [hk] at h
    · simp only [hk, if_false] at h
      simp [putM, hk, ih h]
theorem mem_putM {ents : Ents κ} {k : κ} {v : Value} {x : κ × Value} (h : x ∈ putM ents k v) : x ∈ ents ∨ x = (k, v) := by
  induction ents with
  | nil => simpa [putM] using h
  | cons y r ih =>
    simp only [putM] at h
    split at h
    · rcases List.mem_cons.1 h with h | h
      · exact .inr h
      · exact .inl (by simp [h])
    · rcases List.mem_cons.1 h with h | h
      · exact .inl (by simp [h])
      · rcases ih h with h | h
        · exact .inl (by simp [h])
        · exact .inr h

theorem getM_putM (k p : κ) (v : Value) : ∀ ents : Ents κ, getM (putM ents k v) p = if k = p then some v else getM ents p
  | [] => by simp [putM, getM]
  | x :: r => by
    simp only [putM]
    by_cases h : x.1 = k
    · simp only [h, if_true, getM]
      by_cases hp : k = p <;> simp [hp]
    · simp only [h, if_false, getM, getM_putM k p v r]
      by_cases hx : x.1 = p
      · have : ¬ k = p := fun e => h (by rw [hx, e])
        simp [hx, this]
      · simp [hx]
theorem getM_mem {ents : Ents κ} {k : κ} : (getM ents k).isSome = true ↔ k ∈ ents.map (·.1) := by
  induction ents with
  | nil => simp [getM]
  | cons x r ih =>
    simp only [getM, List.map_cons, List.mem_cons]
    by_cases h : x.1 = k
    · simp [h]
    · simp only [h, if_false, ih]
      constructor
      · exact .inr
      · rintro (e | e)
        · exact absurd e.symm h
        · exact e
theorem getM_at {ents : Ents κ} (hn : (ents.map (·.1)).Nodup) {i : Nat} (hi : i < ents.length) : getM ents ents[i].1 = some ents[i].2 := by
  induction ents generalizing i with
  | nil => simp at hi
  | cons x r ih =>
    simp only [List.map_cons, List.nodup_cons] at hn
    cases i with
    | zero => simp [getM]
    | succ i =>
      simp only [List.getElem_cons_succ, getM]
      have hi' : i < r.length := by simpa using hi
      have hne : x.1 ≠ r[i].1 := fun e => hn.1 (by rw [e]; exact List.mem_map_of_mem (List.getElem_mem hi'))
      rw [if_neg hne]
      exact ih hn.2 hi'
omit [DecidableEq κ] in
theorem entsL_length (ents : Ents κ) : (entsL val ents).length = ents.length := by simp [entsL]
omit [DecidableEq κ] in
theorem entsL_get (ents : Ents κ) (i : Nat) (h : i < ents.length) : (entsL val ents)[i]? = some (entOf val i ents[i]) := by simp [entsL, h]
omit [DecidableEq κ] in
theorem mem_entsL {ents : Ents κ} {e : MapEntry} (h : e ∈ entsL val ents) : ∃ i, ∃ hi : i < ents.length, e = entOf val i ents[i] := by
  obtain ⟨i, hi, rfl⟩ := List.mem_iff_getElem.1 h
  have hi' : i < ents.length := by simpa [entsL] using hi
  exact ⟨i, hi', by simp [entsL]⟩
omit [DecidableEq κ] in
theorem entsL_born (ents : Ents κ) : (entsL val ents).map (·.born) = List.range ents.length := by
  apply List.ext_getElem
  · simp [entsL]
  · intro i h1 h2
    simp [entsL, entOf]

section
variable {P : Program} {T K E : TypeId} {w : World} {b : Nat} {ents : Ents κ}

omit [DecidableEq κ] in
theorem MapIs.lt (h : MapIs val ok w b ents) : b < w.heap.size := (Array.getElem?_eq_some_iff.1 h.heap).1
omit [DecidableEq κ] in
theorem MapIs.kept {w' : World} (h : MapIs val ok w b ents) (hh : w'.heap[b]? = w.heap[b]?) : MapIs val ok w' b ents := ⟨hh.trans h.heap, h.nodup, h.short⟩
omit [DecidableEq κ] in
theorem MapIs.below {B : Nat} {w' : World} (h : MapIs val ok w b ents) (hb : Below B w w') (hB : b < B) : MapIs val ok w' b ents := h.kept (hb.block b hB)
omit [DecidableEq κ] in
theorem MapIs.alloc (h : MapIs val ok w b ents) (o : Obj) : MapIs val ok (w.alloc o) b ents := h.kept (Below.heap_alloc w o b h.lt)
omit [DecidableEq κ] in
theorem MapIs.setCell (h : MapIs val ok w b ents) {a : Addr} (hne : b ≠ a.block) (u : Value) : MapIs val ok (w.setCell a u) b ents := h.kept (Below.heap_setCell w a u b hne)
omit [DecidableEq κ] in
theorem MapIs.made (w : World) : MapIs val ok (w.alloc (.map #[] 0)) w.heap.size [] := ⟨(MapKept.heap_alloc w _).1, by simp, by simp⟩

theorem MapIs.find (h : MapIs val ok w b ents) (L : Enc P K val ok) {k : κ} (hk : ok k) (W : World) :
    ((Instr.findKey K (val k) (entsL val ents)).run P W = .ok none W ∧ getM ents k = none) ∨
    ∃ i, ∃ hi : i < ents.length, (Instr.findKey K (val k) (entsL val ents)).run P W = .ok (some (i, ents[i].2)) W ∧ ents[i].1 = k ∧ getM ents k = some ents[i].2 := by
  obtain ⟨kl, hkl⟩ := L.key k hk
  rcases L.law.find W hkl (entsL val ents) (fun e he => by
      obtain ⟨i, hi, rfl⟩ := mem_entsL he
      exact L.key _ (h.short _ (List.getElem_mem hi))) with ⟨h1, h2⟩ | ⟨j, e, h1, h2, h3⟩
  · refine .inl ⟨h1, getM_none.2 fun x hx hxk => ?_⟩
    obtain ⟨i, hi, rfl⟩ := List.mem_iff_getElem.1 hx
    exact h2 _ (List.mem_of_getElem? (entsL_get ents i hi)) (by simp [entOf, hxk])
  · right
    have hj : j < ents.length := by
      rcases Nat.lt_or_ge j ents.length with h | h
      · exact h
      · rw [List.getElem?_eq_none (by rw [entsL_length]; exact h)] at h2; cases h2
    rw [entsL_get ents j hj] at h2
    injection h2 with h2
    subst h2
    have hk' : ents[j].1 = k := L.inj _ _ (by simpa [entOf] using h3)
    refine ⟨j, hj, h1, hk', ?_⟩
    have hn := h.nodup
    clear h1 h3 h
    induction ents generalizing j with
    | nil => simp at hj
    | cons x r ih =>
      cases j with
      | zero => simp at hk'; simp [getM, hk']
      | succ j =>
        simp at hk'
        simp only [List.map_cons, List.nodup_cons] at hn
        have hne : x.1 ≠ k := by
          intro he
          exact hn.1 (by rw [he, ← hk']; exact List.mem_map_of_mem (List.getElem_mem (by simpa using hj)))
        simp only [getM, hne, if_false, List.getElem_cons_succ]
        exact ih j (by simpa using hj) hk' hn.2

/-- 'v, ok := m[k]' -/
theorem MapIs.lookup (h : MapIs val ok w b ents) (hT : P.underlying T = some (.map K E)) (L : Enc P K val ok) {z : Value} (hz : ∀ W, (zeroValue E).run P W = .ok z W) {k : κ} (hk : ok k) :
    (Instr.lookup T (.map (some b)) (val k) true).run P w = .ok (.tuple #[(getM ents k).getD z, .bool (getM ents k).isSome]) w := by
  obtain ⟨kl, hkl⟩ := L.key k hk
  rcases h.find L hk w with ⟨h1, h2⟩ | ⟨i, hi, h1, h2, h3⟩
  · simp [Instr.lookup, run_underlying hT, MapKept.run_getObj_map h.heap, L.law.check w _ hkl, h1, hz, Result.andThen, h2]
  · simp [Instr.lookup, run_underlying hT, MapKept.run_getObj_map h.heap, L.law.check w _ hkl, h1, Result.andThen, h3]

/-- 'm[k]' -/
theorem MapIs.get (h : MapIs val ok w b ents) (hT : P.underlying T = some (.map K E)) (L : Enc P K val ok) {z : Value} (hz : ∀ W, (zeroValue E).run P W = .ok z W) {k : κ} (hk : ok k) :
    (Instr.lookup T (.map (some b)) (val k) false).run P w = .ok ((getM ents k).getD z) w := by
  obtain ⟨kl, hkl⟩ := L.key k hk
  rcases h.find L hk w with ⟨h1, h2⟩ | ⟨i, hi, h1, h2, h3⟩
  · simp [Instr.lookup, run_underlying hT, MapKept.run_getObj_map h.heap, L.law.check w _ hkl, h1, hz, Result.andThen, h2]
  · simp [Instr.lookup, run_underlying hT, MapKept.run_getObj_map h.heap, L.law.check w _ hkl, h1, Result.andThen, h3]

omit [DecidableEq κ] in
/-- 'len(m)' -/
theorem MapIs.len (h : MapIs val ok w b ents) (hT : P.underlying T = some (.map K E)) (ty : TypeId) : (Builtin.len_ #[T] ty #[.map (some b)]).run P w = .ok (.int .i64 ents.length) w := by
  simp [Builtin.len_, run_underlying hT, MapKept.run_getObj_map h.heap, Result.andThen, entsL, goInt]

omit [DecidableEq κ] in
theorem entsL_snoc (ents : Ents κ) (x : κ × Value) : entsL val (ents ++ [x]) = entsL val ents ++ [entOf val ents.length x] := by simp [entsL, List.mapIdx_append]
theorem entsL_put {ents : Ents κ} {k : κ} {v : Value} {i : Nat} (hi : i < ents.length) (hk : ents[i].1 = k) (hn : (ents.map (·.1)).Nodup) :
    (entsL val ents).modify i (fun e => { e with key := val k, val := v }) = entsL val (putM ents k v) := by
  have h1 : putM ents k v = ents.set i (k, v) := by
    induction ents generalizing i with
    | nil => simp at hi
    | cons x r ih =>
      cases i with
      | zero => simp at hk; simp [putM, hk]
      | succ i =>
        simp at hk
        simp only [List.map_cons, List.nodup_cons] at hn
        have hne : x.1 ≠ k := by
          intro he
          exact hn.1 (by rw [he, ← hk]; exact List.mem_map_of_mem (List.getElem_mem (by simpa using hi)))
        simp only [putM, hne, if_false, List.set_cons_succ]
        rw [ih (by simpa using hi) hk hn.2]
  rw [h1]
  apply List.ext_getElem
  · simp [entsL]
  · intro j h2 h3
    simp only [entsL, List.getElem_modify, List.getElem_mapIdx, List.getElem_set]
    by_cases hj : i = j
    · subst hj; simp [entOf]
    · simp [hj]

/-- 'm[k] = v' -/
theorem MapIs.update (h : MapIs val ok w b ents) (hT : P.underlying T = some (.map K E)) (L : Enc P K val ok) {k : κ} (hk : ok k) (v : Value) :
    ∃ w', (Instr.mapUpdate T (.map (some b)) (val k) v).run P w = .ok () w' ∧ MapIs val ok w' b (putM ents k v) ∧ w.grownBy w' (some b) ∧ w'.heap.size = w.heap.size := by
  obtain ⟨kl, hkl⟩ := L.key k hk
  rcases h.find L hk w with ⟨h1, h2⟩ | ⟨i, hi, h1, h2, h3⟩
  · have e : (entsL val ents).toArray.push { key := val k, val := v, born := ents.length } = (entsL val (putM ents k v)).toArray := by
      rw [putM_new h2, entsL_snoc]
      simp [entOf]
    refine ⟨setBlock w b (mapObj val (putM ents k v)), ?_, ⟨heap_setBlock_same h.heap _, ?_, ?_⟩, ⟨rfl, rfl, rfl, by simp [setBlock], fun i _ hi => heap_setBlock_other h.heap _ (fun e => hi (by rw [e]))⟩, by simp [setBlock]⟩
    · simp [Instr.mapUpdate, run_underlying hT, MapKept.run_getObj_map h.heap, L.law.check w _ hkl, h1, Result.andThen, MapKept.run_setObj_map _ h.heap]
      rw [show mapObj val (putM ents k v) = .map ((entsL val ents).toArray.push { key := val k, val := v, born := ents.length }) (ents.length + 1) by rw [e, mapObj, putM_new h2]; simp]
      simp [setBlock]
    · rw [putM_new h2, List.map_append, List.nodup_append]
      refine ⟨h.nodup, by simp, ?_⟩
      intro a ha c hc
      simp at hc
      obtain ⟨x, hx, rfl⟩ := List.mem_map.1 ha
      rw [hc]
      exact getM_none.1 h2 x hx
    · intro x hx
      rcases mem_putM hx with h' | rfl
      · exact h.short x h'
      · exact hk
  · have e : (entsL val ents).toArray.modify i (fun e => { e with key := val k, val := v }) = (entsL val (putM ents k v)).toArray := by
      rw [← entsL_put hi h2 h.nodup]
      simp
    have hl : (putM ents k v).length = ents.length := by
      have := congrArg List.length (putM_keys_old (v := v) h3)
      simpa using this
    have hst := L.law.stays w hkl
    have hkey : ((entsL val ents)[i]?.map (·.key)).getD (val k) = val k := by rw [entsL_get ents i hi]; simp [entOf, h2]
    refine ⟨setBlock w b (mapObj val (putM ents k v)), ?_, ⟨heap_setBlock_same h.heap _, ?_, ?_⟩, ⟨rfl, rfl, rfl, by simp [setBlock], fun i _ hi => heap_setBlock_other h.heap _ (fun e => hi (by rw [e]))⟩, by simp [setBlock]⟩
    · have e2 : (entsL val ents).modify i (fun e => { e with key := val k, val := v }) = entsL val (putM ents k v) := entsL_put hi h2 h.nodup
      simp [Instr.mapUpdate, run_underlying hT, MapKept.run_getObj_map h.heap, L.law.check w _ hkl, h1, Result.andThen]
      rw [hkey, hst]
      simp only [e2]
      rw [MapKept.run_setObj_map _ h.heap, mapObj, hl]
      rfl
    · rw [putM_keys_old h3]; exact h.nodup
    · intro x hx
      rcases mem_putM hx with h' | rfl
      · exact h.short x h'
      · exact hk

omit [DecidableEq κ] in
theorem MapIs.range (h : MapIs val ok w b ents) (hT : P.underlying T = some (.map K E)) : (Instr.range T (.map (some b))).run P w = .ok (.pointer (some ⟨w.heap.size, 0, none⟩)) (w.alloc (.mapIter (some b) ents.length #[] ents.length)) := by
  simp [Instr.range, run_underlying hT, MapKept.run_getObj_map h.heap, Result.andThen, newObj, Sem.run]
omit [DecidableEq κ] in
/-- one step: nothing is left, or one place that was not seen comes -/
theorem MapIs.next {r : Nat} {seen : List Nat} (h : MapIs val ok w b ents) (hi : IterIs w r b ents.length seen) (ty : TypeId) :
    ((∀ i, i < ents.length → i ∈ seen) ∧ (Instr.next (.pointer (some ⟨r, 0, none⟩)) false ty).run P w = .ok (.tuple #[.bool false]) w) ∨
    ∃ i, ∃ hl : i < ents.length, i ∉ seen ∧ ∃ w', (Instr.next (.pointer (some ⟨r, 0, none⟩)) false ty).run P w = .ok (.tuple #[.bool true, val ents[i].1, ents[i].2]) w' ∧ MapIs val ok w' b ents ∧ IterIs w' r b ents.length (seen ++ [i]) ∧
      w.grownBy w' (some r) ∧ w'.heap.size = w.heap.size ∧ (Instr.entry (.pointer (some ⟨r, 0, none⟩))).run P w' = .ok (.tuple #[val ents[i].1, ents[i].2]) w' := by
  have hne : r ≠ b := by
    rintro rfl
    have := hi.heap.symm.trans h.heap
    simp [mapObj] at this
  have hleft : ∀ e, e ∈ (leftOf (entsL val ents).toArray seen.toArray).toList ↔ ∃ i, ∃ hl : i < ents.length, e = entOf val i ents[i] ∧ i ∉ seen := by
    intro e
    simp only [leftOf, Array.toList_filter, List.mem_filter]
    constructor
    · rintro ⟨h1, h2⟩
      obtain ⟨i, hl, rfl⟩ := mem_entsL h1
      exact ⟨i, hl, rfl, by simpa [entOf] using h2⟩
    · rintro ⟨i, hl, rfl, h2⟩
      exact ⟨List.mem_of_getElem? (entsL_get ents i hl), by simpa [entOf] using h2⟩
  rcases run_next_at (P := P) w ty r b ents.length ents.length seen.toArray (entsL val ents).toArray ents.length hi.heap h.heap (fun x hx => by
      obtain ⟨i, hl, rfl⟩ := mem_entsL hx
      exact hl) (Nat.le_refl _) with ⟨h0, hrun⟩ | ⟨e, he, w1, hw1, hrun⟩
  · refine .inl ⟨fun i hl => ?_, hrun⟩
    rcases Classical.em (i ∈ seen) with hs | hs
    · exact hs
    · have := (hleft _).2 ⟨i, hl, rfl, hs⟩
      rw [Array.eq_empty_of_size_eq_zero h0] at this
      simp at this
  · obtain ⟨i, hl, rfl, hs⟩ := (hleft e).1 he
    have hr1 : w1.heap[r]? = some (.mapIter (some b) ents.length seen.toArray ents.length) := by rcases hw1 with rfl | rfl <;> exact hi.heap
    have hb1 : w1.heap[b]? = some (mapObj val ents) := by rcases hw1 with rfl | rfl <;> exact h.heap
    have hg1 : w.grownBy w1 (some r) := by rcases hw1 with rfl | rfl <;> exact ⟨rfl, rfl, rfl, Nat.le_refl _, fun _ _ _ => rfl⟩
    have hz1 : w1.heap.size = w.heap.size := by rcases hw1 with rfl | rfl <;> rfl
    have hlt1 : r < w1.heap.size := by rw [hz1]; exact hi.lt
    refine .inr ⟨i, hl, hs, _, hrun, ⟨(sb_other w1 _ (Ne.symm hne)).trans hb1, h.nodup, h.short⟩, ⟨?_, ?_, ?_⟩, ?_, ?_, ?_⟩
    · rw [sb_same hlt1]
      simp [entOf]
    · intro j hj
      rcases List.mem_append.1 hj with hj | hj
      · exact hi.inB j hj
      · simp at hj; omega
    · rw [List.nodup_append]
      refine ⟨hi.nodup, by simp, fun a ha c hc => ?_⟩
      simp at hc
      rintro rfl
      exact hs (hc ▸ ha)
    · exact ⟨hg1.os, hg1.tape, hg1.output, by simp [setBlock, hz1], fun j hj hne' => (sb_other w1 _ (fun e => hne' (by rw [e]))).trans (hg1.block j hj hne')⟩
    · simp [setBlock, hz1]
    · exact run_entry_at _ r b ents.length seen.toArray (entsL val ents).toArray ents.length (entOf val i ents[i]) (sb_same hlt1 _) ((sb_other w1 _ (Ne.symm hne)).trans hb1) (List.mem_of_getElem? (entsL_get ents i hl)) (by rw [entsL_born]; exact List.nodup_range)
end
end
end Go.Proofs.YtfbbkmdhnkmonaaGreatDoor.KM

namespace Go.Proofs.YtfbbkmdhnkmonaaGreatDoor
open Go.RowKit

/-- ahead of, among places -/
def plLt (a b : Pl) : Prop := a.1 < b.1 ∨ (a.1 = b.1 ∧ (a.2.1 < b.2.1 ∨ (a.2.1 = b.2.1 ∧ a.2.2 < b.2.2)))
instance (a b : Pl) : Decidable (plLt a b) := by unfold plLt; infer_instance
theorem plLt_irrefl (a : Pl) : ¬ plLt a a := by unfold plLt; omega
theorem plLt_trans {a b c : Pl} (h : plLt a b) (h' : plLt b c) : plLt a c := by unfold plLt at *; omega
theorem plLt_asymm {a b : Pl} (h : plLt a b) : ¬ plLt b a := fun h' => plLt_irrefl a (plLt_trans h h')
theorem plLt_total (a b : Pl) : plLt a b ∨ a = b ∨ plLt b a := by
  obtain ⟨a1, a2, a3⟩ := a
  obtain ⟨b1, b2, b3⟩ := b
  simp only [plLt, Prod.mk.injEq]
  omega
theorem senL_range {md : ModelD} {k n : Int} {i : Nat} (h : i < (senL md k n).length) : (k = 1 ∨ k = 2 ∨ k = 3 ∨ k = 4) ∧ 0 ≤ n ∧ n.toNat < max md.stages.length md.stones.length := by
  unfold senL at h
  split at h
  · simp at h
  · rename_i hn
    have key : ∀ {α : Type} (l : List α) (f : α → List SentryD), i < ((l[n.toNat]?.map f).getD []).length → n.toNat < l.length := by
      intro α l f h
      rcases Nat.lt_or_ge n.toNat l.length with h1 | h1
      · exact h1
      · rw [List.getElem?_eq_none h1] at h; simp at h
    split at h
    · have := key _ _ h; exact ⟨by omega, by omega, by omega⟩
    · split at h
      · have := key _ _ h; exact ⟨by omega, by omega, by omega⟩
      · split at h
        · have := key _ _ h; exact ⟨by omega, by omega, by omega⟩
        · split at h
          · have := key _ _ h; exact ⟨by omega, by omega, by omega⟩
          · simp at h
theorem senAt_some {md : ModelD} {p : Pl} : (senAt md p).isSome = true ↔ 0 ≤ p.2.2 ∧ p.2.2.toNat < (senL md p.1 p.2.1).length := by
  unfold senAt
  split
  · simp; omega
  · rename_i h
    simp only [List.getElem?_eq_some_iff, Option.isSome_iff_exists]
    constructor
    · rintro ⟨s, h1, -⟩; exact ⟨by omega, h1⟩
    · rintro ⟨-, h1⟩; exact ⟨_, h1, rfl⟩
theorem mem_placesL {md : ModelD} {p : Pl} : p ∈ placesL md ↔ (senAt md p).isSome = true := by
  rw [senAt_some]
  obtain ⟨k, n, i⟩ := p
  simp only [placesL, List.mem_flatMap, List.mem_map, List.mem_range, Prod.mk.injEq]
  constructor
  · rintro ⟨k', hk, n', hn, i', hi, rfl, rfl, rfl⟩
    exact ⟨by simp, by simpa using hi⟩
  · rintro ⟨h1, h2⟩
    obtain ⟨h3, h4, h5⟩ := senL_range h2
    refine ⟨k, by simp; omega, n.toNat, h5, i.toNat, ?_, rfl, by omega, by omega⟩
    rw [show ((n.toNat : Nat) : Int) = n by omega]
    exact h2
theorem pairwise_flatMap' {α β : Type} {R : β → β → Prop} {f : α → List β} : ∀ {l : List α}, (∀ x ∈ l, (f x).Pairwise R) → l.Pairwise (fun x y => ∀ a ∈ f x, ∀ b ∈ f y, R a b) → (l.flatMap f).Pairwise R
  | [], _, _ => by simp
  | x :: l, h1, h2 => by
    obtain ⟨h3, h4⟩ := List.pairwise_cons.1 h2
    rw [List.flatMap_cons, List.pairwise_append]
    refine ⟨h1 x (List.mem_cons_self ..), pairwise_flatMap' (fun y hy => h1 y (List.mem_cons_of_mem _ hy)) h4, fun a ha b hb => ?_⟩
    obtain ⟨y, hy, hb⟩ := List.mem_flatMap.1 hb
    exact h3 y hy a ha b hb
theorem range_pairwise (n : Nat) : (List.range n).Pairwise (fun a b => a < b) := List.pairwise_lt_range
theorem placesL_sorted (md : ModelD) : (placesL md).Pairwise plLt := by
  refine pairwise_flatMap' (fun k _ => pairwise_flatMap' (fun (n : Nat) _ => ?_) ?_) ?_
  · rw [List.pairwise_map]
    exact (range_pairwise _).imp @fun (a b : Nat) h => .inr ⟨rfl, .inr ⟨rfl, Int.ofNat_lt.2 h⟩⟩
  · refine (range_pairwise _).imp @fun (n n' : Nat) h a ha b hb => ?_
    obtain ⟨i, -, rfl⟩ := List.mem_map.1 ha
    obtain ⟨i', -, rfl⟩ := List.mem_map.1 hb
    exact .inr ⟨rfl, .inl (Int.ofNat_lt.2 h)⟩
  · have h0 : ([1, 2, 3, 4] : List Int).Pairwise (fun a b => a < b) := by decide
    refine h0.imp @fun (k k' : Int) h a ha b hb => ?_
    obtain ⟨n, -, ha⟩ := List.mem_flatMap.1 ha
    obtain ⟨i, -, rfl⟩ := List.mem_map.1 ha
    obtain ⟨n', -, hb⟩ := List.mem_flatMap.1 hb
    obtain ⟨i', -, rfl⟩ := List.mem_map.1 hb
    exact .inl h
theorem placesL_nodup (md : ModelD) : (placesL md).Nodup := (placesL_sorted md).imp @fun (a b : Pl) h (e : a = b) => plLt_irrefl a (by rw [← e] at h; exact h)
theorem sorted_one : ∀ {l m : List Pl}, l.Perm m → l.Pairwise plLt → m.Pairwise plLt → l = m
  | [], m, hp, _, _ => hp.nil_eq
  | x :: l, [], hp, _, _ => by have := hp.length_eq; simp at this
  | x :: l, y :: m, hp, hl, hm => by
    obtain ⟨hl1, hl2⟩ := List.pairwise_cons.1 hl
    obtain ⟨hm1, hm2⟩ := List.pairwise_cons.1 hm
    have e : x = y := by
      rcases List.mem_cons.1 (hp.symm.subset (List.mem_cons_self ..)) with h | h
      · exact h.symm
      · rcases List.mem_cons.1 (hp.subset (List.mem_cons_self ..)) with h' | h'
        · exact h'
        · exact absurd (hm1 x h') (plLt_asymm (hl1 y h))
    subst e
    rw [sorted_one (List.Perm.cons_inv hp) hl2 hm2]
/-- a list without doubles, sorted, of the same members -/
theorem perm_of_mem {α : Type} [DecidableEq α] : ∀ {l m : List α}, l.Nodup → m.Nodup → (∀ x, x ∈ l ↔ x ∈ m) → l.Perm m
  | [], m, _, _, h => by
    have : m = [] := List.eq_nil_iff_forall_not_mem.2 fun x hx => by simpa using (h x).2 hx
    rw [this]
  | x :: l, m, hl, hm, h => by
    have hx : x ∈ m := (h x).1 (List.mem_cons_self ..)
    refine ((perm_of_mem (l := l) (m := m.erase x) (List.nodup_cons.1 hl).2 (hm.erase x) fun y => ?_).cons x).trans (List.perm_cons_erase hx).symm
    rw [hm.mem_erase_iff, ← h y, List.mem_cons]
    constructor
    · intro hy
      exact ⟨fun e => (List.nodup_cons.1 hl).1 (e ▸ hy), .inr hy⟩
    · rintro ⟨h1, h2 | h2⟩
      · exact absurd h2 h1
      · exact h2
theorem sorted_places {md : ModelD} {l : List Pl} (hn : l.Nodup) (hm : ∀ p, p ∈ l ↔ (senAt md p).isSome = true) (hs : ∀ i j (hi : i < l.length) (hj : j < l.length), i < j → ¬ plLt l[j] l[i]) : l = placesL md := by
  refine sorted_one (perm_of_mem hn (placesL_nodup md) fun p => by rw [hm, mem_placesL]) ?_ (placesL_sorted md)
  rw [List.pairwise_iff_getElem]
  intro i j hi hj hij
  rcases plLt_total l[i] l[j] with h | h | h
  · exact h
  · exact absurd ((List.getElem_inj hn).1 h) (by omega)
  · exact absurd h (hs i j hi hj hij)
/-! How many. -/
theorem sum_at {α : Type} (f : α → Nat) : ∀ (l : List α) (N : Nat), l.length ≤ N → ((List.range N).map fun n => ((l[n]?).map f).getD 0).sum = (l.map f).sum
  | [], N, _ => by
    have : ∀ N, ((List.range N).map fun n => ((([] : List α)[n]?).map f).getD 0).sum = 0 := by
      intro N
      rw [show ((List.range N).map fun n => ((([] : List α)[n]?).map f).getD 0) = List.replicate N 0 from by
        apply List.ext_getElem (by simp)
        intro i h1 h2
        simp]
      simp
    simpa using this N
  | x :: l, 0, h => by simp at h
  | x :: l, N + 1, h => by
    rw [List.range_succ_eq_map, List.map_cons, List.sum_cons, List.map_map, List.map_cons, List.sum_cons]
    have := sum_at f l N (by simpa using h)
    simp only [List.getElem?_cons_zero, Option.map_some, Option.getD_some]
    rw [← this]
    rfl
theorem length_placesL (md : ModelD) : (placesL md).length = manyN md := by
  have hs : ∀ (k : Int) (n : Nat), (senL md k (n : Int)).length = if k = 1 then ((md.stages[n]?).map fun s => s.opens.length).getD 0 else if k = 2 then ((md.stages[n]?).map fun s => s.closes.length).getD 0 else if k = 3 then ((md.stones[n]?).map fun s => s.done.length).getD 0 else if k = 4 then ((md.stones[n]?).map fun s => s.undo.length).getD 0 else 0 := by
    intro k n
    unfold senL
    rw [if_neg (by omega), Int.toNat_natCast]
    split
    · cases md.stages[n]? <;> rfl
    · split
      · cases md.stages[n]? <;> rfl
      · split
        · cases md.stones[n]? <;> rfl
        · split
          · cases md.stones[n]? <;> rfl
          · rfl
  have hl : ∀ k : Int, ((List.range (max md.stages.length md.stones.length)).flatMap fun (n : Nat) => (List.range (senL md k (n : Int)).length).map fun (i : Nat) => ((k, (n : Int), (i : Int)) : Pl)).length = ((List.range (max md.stages.length md.stones.length)).map fun (n : Nat) => (senL md k (n : Int)).length).sum := by
    intro k
    rw [List.length_flatMap]
    simp
  have sum_add : ∀ {α : Type} (f g : α → Nat) (l : List α), (l.map fun x => f x + g x).sum = (l.map f).sum + (l.map g).sum := by
    intro α f g l
    induction l with
    | nil => rfl
    | cons x l ih => simp only [List.map_cons, List.sum_cons, ih]; omega
  unfold placesL manyN
  rw [List.flatMap_cons, List.flatMap_cons, List.flatMap_cons, List.flatMap_cons, List.flatMap_nil, List.length_append, List.length_append, List.length_append, List.length_append, hl, hl, hl, hl]
  simp only [hs]
  have e1 := sum_at (fun s : StageD => s.opens.length) md.stages (max md.stages.length md.stones.length) (by omega)
  have e2 := sum_at (fun s : StageD => s.closes.length) md.stages (max md.stages.length md.stones.length) (by omega)
  have e3 := sum_at (fun s : StoneD => s.done.length) md.stones (max md.stages.length md.stones.length) (by omega)
  have e4 := sum_at (fun s : StoneD => s.undo.length) md.stones (max md.stages.length md.stones.length) (by omega)
  rw [sum_add, sum_add]
  simp only [if_true, show ¬ (2 : Int) = 1 by decide, show ¬ (3 : Int) = 1 by decide, show ¬ (3 : Int) = 2 by decide, show ¬ (4 : Int) = 1 by decide, show ¬ (4 : Int) = 2 by decide, show ¬ (4 : Int) = 3 by decide, if_false, e1, e2, e3, e4, List.length_nil]
  omega
/-- the order of all places -/
theorem orderL_is (md : ModelD) : ∃ rest, OrdIs (leansB md) (placesL md) (orderL md) rest := ordL_is _ _ _ _ _ (OrdIs.start _ _)
theorem orderL_len (md : ModelD) : (orderL md).length ≤ (placesL md).length := by
  obtain ⟨rest, h⟩ := orderL_is md
  have := h.perm.length_eq
  rw [List.length_append] at this
  omega
theorem ordL_full (lean : Pl → Pl → Bool) (l : List Pl) : ∀ (f g : Nat) (out rest : List Pl), rest.length ≤ f → rest.length ≤ g → ordL lean l f out rest = ordL lean l g out rest
  | 0, 0, _, _, _, _ => rfl
  | 0, g + 1, out, rest, h, _ => by
    obtain rfl := List.eq_nil_of_length_eq_zero (Nat.le_zero.1 h)
    simp [ordL]
  | f + 1, 0, out, rest, _, h => by
    obtain rfl := List.eq_nil_of_length_eq_zero (Nat.le_zero.1 h)
    simp [ordL]
  | f + 1, g + 1, out, rest, h1, h2 => by
    simp only [ordL]
    split
    · rfl
    · split
      · rfl
      · rename_i i _ _ a ha
        have hi := lt_of_some ha
        have : (rest.eraseIdx i).length + 1 = rest.length := by rw [List.length_eraseIdx_of_lt hi]; omega
        exact ordL_full lean l f g _ _ (by omega) (by omega)
end Go.Proofs.YtfbbkmdhnkmonaaGreatDoor

namespace Go.Proofs.YtfbbkmdhnkmonaaGreatDoor
open Go.RowKit

def plV (p : Pl) : Value := .agg #[.int .i64 p.1, .int .i64 p.2.1, .int .i64 p.2.2]
def plC (p : Pl) : List Value := [.int .i64 p.1, .int .i64 p.2.1, .int .i64 p.2.2]
def okPl (p : Pl) : Prop := (-1000000 ≤ p.1 ∧ p.1 ≤ 1000000) ∧ (-1000000 ≤ p.2.1 ∧ p.2.1 ≤ 1000000) ∧ (-1000000 ≤ p.2.2 ∧ p.2.2 ≤ 1000000)
theorem plV_inj (a b : Pl) (h : plV a = plV b) : a = b := by
  obtain ⟨a1, a2, a3⟩ := a
  obtain ⟨b1, b2, b3⟩ := b
  simpa [plV] using h
theorem plKeyed : Maps.Keyed Tryz.prog 33 := Maps.Keyed.of_law (deep_law_laid (m := 9) (by kernel_rfl) (by omega) (of_decide_eq_true (by kernel_rfl)) (by kernel_rfl) (by kernel_rfl))
theorem plEnc : KM.Enc Tryz.prog 33 plV okPl := ⟨plKeyed, plV_inj, fun p hp => by
  obtain ⟨p1, p2, p3⟩ := p
  obtain ⟨h1, h2, h3⟩ := hp
  simp only at h1 h2 h3
  have w1 : (Lit.int .i64 p1).wf = true := WalkArith.wf_i64 (by omega)
  have w2 : (Lit.int .i64 p2).wf = true := WalkArith.wf_i64 (by omega)
  have w3 : (Lit.int .i64 p3).wf = true := WalkArith.wf_i64 (by omega)
  have hT : Tryz.prog.keyType 33 = true := by kernel_rfl
  have hF : (Value.agg #[.int .i64 p1, .int .i64 p2, .int .i64 p3]).formed Tryz.prog 33 = true := by kernel_rfl
  have hc3 : Tryz.prog.cellsOf 33 = 3 := by kernel_rfl
  have hc1 : Tryz.prog.cellsOf 3 = 1 := by kernel_rfl
  obtain ⟨n, hn⟩ : ∃ n, Tryz.prog.types.size = n + 1 := ⟨Tryz.prog.types.size - 1, by kernel_rfl⟩
  have hL : ∀ n, Tryz.prog.keyLits (n + 1 + 1) 33 [.int .i64 p1, .int .i64 p2, .int .i64 p3] = some [.int .i64 p1, .int .i64 p2, .int .i64 p3] := by
    intro n
    simp [Program.keyLits, Tryz.underlying33, Tryz.underlying3, hc3, hc1, w1, w2, w3, List.range, List.range.loop]
  refine ⟨.string (keyBytes [.int .i64 p1, .int .i64 p2, .int .i64 p3]), ?_⟩
  unfold keyOf plV
  rw [Tryz.underlying33]
  simp only [hT, hF, hn, Bool.and_self, if_true]
  rw [show (Value.agg #[.int .i64 p1, .int .i64 p2, .int .i64 p3]).cells.toList = [.int .i64 p1, .int .i64 p2, .int .i64 p3] from rfl, hL n]
  rfl⟩
end Go.Proofs.YtfbbkmdhnkmonaaGreatDoor
