/- slices.Clone at roles, users, and at nil. package state: a role's, a user's lists in memory of their own; each. package state: each role in memory of its own. package state: the one user in memory of their own; each at nil. package state: each at nil. -/
import Derived.Test.YtinijohmdljieaaGreatDoorCloneStrs
import Derived.Test.YtinijohmdljieaaGreatDoorRoleData
import Derived.Deep.RegionHeld3
import Derived.Deep.RegionWith
import Derived.Test.YtinijohmdljieaaGreatDoorArrOf
namespace Go.Proofs.YtinijohmdljieaaGreatDoor
open Go.RowKit

theorem elemRole : Elem Tryz.prog 22 81 3 64 := ⟨Tryz.underlying22, ⟨.agg #[.string ⟨#[]⟩, .slice none 0 0, .slice none 0 0], by kernel_rfl, rfl⟩, by omega, Tryz.sizeOf81⟩
theorem elemUser : Elem Tryz.prog 27 25 4 72 := ⟨Tryz.underlying27, ⟨.agg #[.string ⟨#[]⟩, .string ⟨#[]⟩, .string ⟨#[]⟩, .slice none 0 0], by kernel_rfl, rfl⟩, by omega, Tryz.sizeOf25⟩
def cellsR (r : Rl) : List Value := [.string r.name, r.hv, r.mv]
def flatR (l : List Rl) : List Value := l.flatMap cellsR
theorem flatR_len : ∀ l : List Rl, (flatR l).length = l.length * 3
  | [] => rfl
  | r :: l => by
    have : flatR (r :: l) = cellsR r ++ flatR l := rfl
    rw [this, List.length_append, flatR_len l, List.length_cons]
    show 3 + _ = _
    omega
theorem flatR_at : ∀ (l : List Rl) (j : Nat) (h : j < l.length), (flatR l)[j * 3]? = some (.string l[j].name) ∧ (flatR l)[j * 3 + 1]? = some l[j].hv ∧ (flatR l)[j * 3 + 2]? = some l[j].mv
  | r :: l, 0, _ => ⟨rfl, rfl, rfl⟩
  | r :: l, j + 1, h => by
    have e : flatR (r :: l) = cellsR r ++ flatR l := rfl
    have h3 : (cellsR r).length = 3 := rfl
    rw [e, show (j + 1) * 3 = 3 + j * 3 by omega, List.getElem?_append_right (by omega), List.getElem?_append_right (by omega), List.getElem?_append_right (by omega), h3, show 3 + j * 3 - 3 = j * 3 by omega, show 3 + j * 3 + 1 - 3 = j * 3 + 1 by omega, show 3 + j * 3 + 2 - 3 = j * 3 + 2 by omega]
    exact flatR_at l j (by simpa using h)
theorem flatR_one : ∀ (l : List Rl), ∀ u ∈ flatR l, u.oneCell' = true
  | [], u, h => by cases h
  | r :: l, u, h => by
    have e : flatR (r :: l) = cellsR r ++ flatR l := rfl
    rw [e] at h
    rcases List.mem_append.1 h with h | h
    · simp only [cellsR, List.mem_cons, List.not_mem_nil, or_false] at h
      rcases h with rfl | rfl | rfl <;> rfl
    · exact flatR_one l u h
set_option maxHeartbeats 2000000 in
set_option maxRecDepth 100000 in
theorem cloneRoles0 (a : Addr) (c : Nat) (w : World) : Calls Tryz.prog 104 #[.slice (some a) 0 c] w fun e w' => e = .returned (.slice (some ⟨w.heap.size, 0, none⟩) 0 0) ∧ w' = w.alloc (.cells #[] 81) := by
  have hq : ∀ (w : World) (a : Option Addr) (n c n' c' : Nat), (binOp .eql 22 (.slice a n c) (.slice none n' c')).run Tryz.prog w = .ok (.bool a.isNone) w := fun w a n c n' c' => Lib.run_eql_slice_nil w _ _ a n c n' c' Tryz.underlying22
  go_enter Tryz.func104, Tryz.ntmps104
  go_wp2_with fail
  go_ret
  exact ⟨rfl, rfl⟩
set_option maxRecDepth 100000 in
/-- slices.Clone of roles -/
theorem cloneRoles (v : Value) (l : List Rl) (w : World) (hl : l.length ≤ 1048576) (h : Rls w.heap.size w v l) :
    Calls Tryz.prog 104 #[v] w fun e w' => ∃ va vc, e = .returned (.slice va l.length vc) ∧ Own w' w.heap.size 81 3 va vc l.length (flatR l) ∧ Below w.heap.size w w' := by
  obtain ⟨a, c, b, o, rfl, hle, hc⟩ := h.cells
  by_cases h0 : 0 < l.length
  · obtain ⟨rfl, hb⟩ := hc.at0 h0
    obtain ⟨z, hz, hzs⟩ := elemRole.info
    obtain ⟨i, hi, hz0, hz1, hz2⟩ := info_parts hz
    refine (AnyE.slices_Clone Tryz.cloneRole i z 3 64 hi hz0 hz1 hz2 hzs (by omega) elemRole.size b o l.length c (flatR l) w (flatR_len l) (by unfold maxLen; omega) (by omega) (fun j u hj => ?_) (flatR_one l)).mono ?_
    · have hlt : j < l.length * 3 := by
        rcases Nat.lt_or_ge j (l.length * 3) with h | h
        · exact h
        · rw [List.getElem?_eq_none (by rw [flatR_len]; exact h)] at hj; cases hj
      obtain ⟨q, r, hr, rfl⟩ : ∃ q r, r < 3 ∧ j = q * 3 + r := ⟨j / 3, j % 3, Nat.mod_lt _ (by omega), by omega⟩
      have hq : q < l.length := by omega
      obtain ⟨e0, e1, e2⟩ := flatR_at l q hq
      match r, hr with
      | 0, _ => rw [Nat.add_zero, e0] at hj; injection hj with hj; subst hj; exact hc.c0 q hq
      | 1, _ => rw [e1] at hj; injection hj with hj; subst hj; exact hc.c1 q hq
      | 2, _ => rw [e2] at hj; injection hj with hj; subst hj; exact hc.c2 q hq
    · rintro e w' ⟨v', rfl, hr, -, hbw⟩
      rcases hr.2 with ⟨hv, h1⟩ | ⟨g, cap, _, hv, _⟩
      · omega
      · exact ⟨_, _, by rw [hv], ⟨by rw [hv] at hr; exact hr⟩, hbw⟩
  · have hn : l = [] := List.eq_nil_of_length_eq_zero (by omega)
    subst hn
    cases a with
    | none =>
      refine (AnyE.slices_Clone_nil Tryz.cloneRole 0 c w).mono ?_
      rintro e w' ⟨rfl, rfl⟩
      exact ⟨none, 0, rfl, Own.nil _ _ _ _, Below.refl _ _⟩
    | some a =>
      refine (cloneRoles0 a c w).mono ?_
      rintro e w' ⟨rfl, rfl⟩
      exact ⟨_, _, rfl, ⟨World.ownsRow_made w #[] 0 (Nat.le_refl _) (Nat.zero_le _) rfl⟩, (Below.refl _ _).alloc (Nat.le_refl _) _⟩
end Go.Proofs.YtinijohmdljieaaGreatDoor

namespace Go.Proofs.YtinijohmdljieaaGreatDoor
open Go.RowKit

theorem cellBelow2 {w w' : World} (hb : Below w.heap.size w w') {a : Addr} {v : Value} (hc : w.cell? a = some v) : w'.cell? a = some v := (hb.cell (World.block_lt_of_cell? w a hc)).trans hc
theorem Own.strsOf {w : World} {base : Nat} {va : Option Addr} {vc : Nat} {xs : List ByteArray} (h : Own w base 9 1 va vc xs.length (xs.map Value.string)) : Strs w.heap.size w (.slice va xs.length vc) xs := by
  rcases h.block with ⟨rfl, h0, rfl⟩ | ⟨g, rfl, _, hlt, -⟩
  · have : xs = [] := List.eq_nil_of_length_eq_zero h0
    subst this
    exact ⟨none, 0, 0, 0, rfl, by simp, by simp, by simp⟩
  · refine ⟨_, vc, g, 0, rfl, h.cap.1, fun _ => ⟨rfl, hlt⟩, fun j x hj => ?_⟩
    have hjl : j < xs.length := by
      rcases Nat.lt_or_ge j xs.length with h | h
      · exact h
      · rw [List.getElem?_eq_none h] at hj; cases hj
    obtain ⟨g', he, _, _, hc, _⟩ := h.cell (by omega)
    cases he
    refine ⟨fun _ => .string x, fun i hi => ?_, rfl⟩
    obtain rfl : i = 0 := by omega
    rw [Nat.zero_add, Nat.mul_one, Nat.add_zero]
    exact hc j _ (by rw [List.getElem?_map, hj]; rfl)
theorem Own.lt_any {w : World} {base : Nat} {E : TypeId} {k vc n : Nat} {va : Option Addr} {cells : List Value} (h : Own w base E k va vc n cells) {b o : Nat} (he : va = some ⟨b, o, none⟩) : base ≤ b := by
  rcases h.block with ⟨h1, _⟩ | ⟨g, h1, h2, _⟩
  · rw [h1] at he; cases he
  · rw [h1] at he; cases he; exact h2
/-- a role, its two lists new -/
structure NewR (r r' : Rl) (B : Nat) (w : World) : Prop where
  name : r'.name = r.name
  holds : r'.holds = r.holds
  may : r'.may = r.may
  hs : Strs w.heap.size w r'.hv r'.holds
  ms : Strs w.heap.size w r'.mv r'.may
  hb : ∀ b o, r'.ha = some ⟨b, o, none⟩ → B ≤ b
  mb : ∀ b o, r'.ma = some ⟨b, o, none⟩ → B ≤ b
def Twin2End (g o : Nat) (r : Rl) (w : World) (e : Ending) (w' : World) : Prop :=
  e = .returned (.tuple #[]) ∧ ∃ (r' : Rl) (w1 : World), Below w.heap.size w w1 ∧ NewR r r' w.heap.size w1 ∧ w' = (w1.setCell ⟨g, o + 1, none⟩ r'.hv).setCell ⟨g, o + 2, none⟩ r'.mv
set_option maxHeartbeats 4000000 in
set_option maxRecDepth 100000 in
theorem twin2_walk (g o : Nat) (r : Rl) (w : World) (c1 : w.cell? ⟨g, o + 1, none⟩ = some r.hv) (c2 : w.cell? ⟨g, o + 2, none⟩ = some r.mv) (hf : ∀ j, w.frozen? ⟨g, j, none⟩ = false) (hs : Strs w.heap.size w r.hv r.holds) (ms : Strs w.heap.size w r.mv r.may) (hl : r.holds.length ≤ 1048576) (ml : r.may.length ≤ 1048576) :
    Calls Tryz.prog 58 #[.pointer (some ⟨g, o, none⟩)] w (Twin2End g o r w) := by
  have hg : g < w.heap.size := World.block_lt_of_cell? w _ c1
  have HC1 := Lib.hid (fun W (hb : Below w.heap.size w W) => cloneStrs r.hv r.holds W hl ((hs.below hb).mono hb.size))
  have HC2 := Lib.hid (fun W (hb : Below w.heap.size w W) => cloneStrs r.mv r.may W ml ((ms.below hb).mono hb.size))
  have HK := Lib.hid (fun W (hb : Below w.heap.size w W) => (⟨cellBelow2 hb c1, cellBelow2 hb c2, by rw [hb.frozen (p := ⟨g, o + 1, none⟩) hg]; exact hf _, by rw [hb.frozen (p := ⟨g, o + 2, none⟩) hg]; exact hf _⟩ : W.cell? ⟨g, o + 1, none⟩ = some r.hv ∧ W.cell? ⟨g, o + 2, none⟩ = some r.mv ∧ W.frozen? ⟨g, o + 1, none⟩ = false ∧ W.frozen? ⟨g, o + 2, none⟩ = false))
  obtain ⟨rn, ha, hc, ma, mc, holds, may⟩ := r
  simp only [Rl.hv, Rl.mv] at *
  clear hs ms hl ml hf
  have hq0 := (Below.refl w.heap.size w).drew
  go_enter Tryz.func58, Tryz.ntmps58
  go_wp2_with fail
  go_region_with (first
    | (go_at_call 41; refine (HC1.out _ hq0).mono ?_; rintro e W1 ⟨va, vc, rfl, hO1, hb1⟩; have hq1 := hq0.trans (hb1.mono hq0.size); obtain ⟨k1, k2, k3, k4⟩ := HK.out _ hq1; clear HC1)
    | (go_at_call 41; refine (HC2.out _ hq1).mono ?_; rintro e W2 ⟨vb, vd, rfl, hO2, hb2⟩; have hq2 := hq1.trans (hb2.mono hq1.size); obtain ⟨m1, m2, m3, m4⟩ := HK.out _ hq2; clear HC2))
  all_goals
    go_end0
    refine ⟨rfl, ⟨rn, va, vc, vb, vd, holds, may⟩, W2, hq2, ⟨rfl, rfl, rfl, (hO1.strsOf.below hb2).mono hb2.size, hO2.strsOf, fun b o he => ?_, fun b o he => ?_⟩, rfl⟩
    · exact Own.lt_any hO1 he
    · exact Nat.le_trans hq1.size (Own.lt_any hO2 he)
end Go.Proofs.YtinijohmdljieaaGreatDoor

namespace Go.Proofs.YtinijohmdljieaaGreatDoor
open Go.RowKit

/-- the same data -/
def SameD (l l' : List Rl) : Prop := l'.length = l.length ∧ ∀ j (h : j < l.length) (h' : j < l'.length), l'[j].name = l[j].name ∧ l'[j].holds = l[j].holds ∧ l'[j].may = l[j].may
/-- a role's lists in memory of their own -/
def OwnL (B g : Nat) (w : World) (r : Rl) : Prop := Strs w.heap.size w r.hv r.holds ∧ Strs w.heap.size w r.mv r.may ∧ (∀ b o, r.ha = some ⟨b, o, none⟩ → B ≤ b ∧ b ≠ g) ∧ (∀ b o, r.ma = some ⟨b, o, none⟩ → B ≤ b ∧ b ≠ g)
theorem strs_kept {w w' : World} {a : Option Addr} {n c : Nat} {xs : List ByteArray} {g : Nat} (h : Strs w.heap.size w (.slice a n c) xs) (hne : ∀ b o, a = some ⟨b, o, none⟩ → b ≠ g) (hk : ∀ k, k < w.heap.size → k ≠ g → w'.heap[k]? = w.heap[k]?) (hs : w.heap.size ≤ w'.heap.size) : Strs w'.heap.size w' (.slice a n c) xs := by
  obtain ⟨a', c', b, off, hv, hle, ha, hc⟩ := h.ex
  injection hv with e1 e2 e3
  subst e1; subst e2; subst e3
  refine ⟨a, c, b, off, rfl, hle, fun h0 => ⟨(ha h0).1, Nat.lt_of_lt_of_le (ha h0).2 hs⟩, fun j x hj => ?_⟩
  obtain ⟨cs, h1, h2⟩ := hc j x hj
  have h0 : 0 < xs.length := by
    rcases Nat.lt_or_ge j xs.length with h | h
    · omega
    · rw [List.getElem?_eq_none h] at hj; cases hj
  exact ⟨cs, fun i hi => by rw [World.cell?_of_block (hk b (ha h0).2 (hne b off (ha h0).1))]; exact h1 i hi, h2⟩
theorem OwnL.kept {B g : Nat} {w w' : World} {r : Rl} (h : OwnL B g w r) (hk : ∀ k, k < w.heap.size → k ≠ g → w'.heap[k]? = w.heap[k]?) (hs : w.heap.size ≤ w'.heap.size) : OwnL B g w' r :=
  ⟨strs_kept h.1 (fun b o he => (h.2.2.1 b o he).2) hk hs, strs_kept h.2.1 (fun b o he => (h.2.2.2 b o he).2) hk hs, h.2.2.1, h.2.2.2⟩
theorem flatR_set : ∀ (l : List Rl) (m : Nat) (h : m < l.length) (r' : Rl), r'.name = l[m].name → ((flatR l).set (m * 3 + 1) r'.hv).set (m * 3 + 2) r'.mv = flatR (l.set m r')
  | r :: l, 0, _, r', hn => by
    show [.string r.name, r'.hv, r'.mv] ++ flatR l = [.string r'.name, r'.hv, r'.mv] ++ flatR l
    rw [hn]; rfl
  | r :: l, m + 1, h, r', hn => by
    have e : ∀ (x : Rl) (y : List Rl), flatR (x :: y) = .string x.name :: x.hv :: x.mv :: flatR y := fun _ _ => rfl
    rw [List.set_cons_succ, e, e, show (m + 1) * 3 + 1 = (m * 3 + 1) + 1 + 1 + 1 by omega, show (m + 1) * 3 + 2 = (m * 3 + 2) + 1 + 1 + 1 by omega]
    simp only [List.set_cons_succ]
    rw [flatR_set l m (by simpa using h) r' (by simpa using hn)]
/-- each of a list's first m roles is new -/
structure EachR (w wr : World) (l : List Rl) (m g vc : Nat) (lm : List Rl) : Prop where
  own : Own wr w.heap.size 81 3 (some ⟨g, 0, none⟩) vc l.length (flatR lm)
  below : Below w.heap.size w wr
  same : SameD l lm
  old : ∀ j (h : j < l.length) (h' : j < lm.length), m ≤ j → lm[j] = l[j]
  new : ∀ j (h : j < lm.length), j < m → OwnL w.heap.size g wr lm[j]
theorem EachR.next {w wr w1 : World} {l : List Rl} {m g vc : Nat} {lm : List Rl} (h : EachR w wr l m g vc lm) (hm : m < l.length) {r' : Rl} (hb : Below wr.heap.size wr w1) (hn : NewR l[m] r' wr.heap.size w1) :
    EachR w ((w1.setCell ⟨g, m * 3 + 1, none⟩ r'.hv).setCell ⟨g, m * 3 + 2, none⟩ r'.mv) l (m + 1) g vc (lm.set m r') := by
  have hlm : lm.length = l.length := h.same.1
  obtain ⟨hgb, hgl⟩ := h.own.lt rfl
  have hnm : r'.name = lm[m].name := by rw [hn.name]; exact ((h.same.2 m hm (by omega)).1).symm
  have hkeep : ∀ k, k < wr.heap.size → k ≠ g → ((w1.setCell ⟨g, m * 3 + 1, none⟩ r'.hv).setCell ⟨g, m * 3 + 2, none⟩ r'.mv).heap[k]? = wr.heap[k]? := fun k hk hne => by
    rw [Below.heap_setCell _ ⟨g, m * 3 + 2, none⟩ _ k hne, Below.heap_setCell _ ⟨g, m * 3 + 1, none⟩ _ k hne]
    exact hb.block k hk
  have hkeep1 : ∀ k, k < w1.heap.size → k ≠ g → ((w1.setCell ⟨g, m * 3 + 1, none⟩ r'.hv).setCell ⟨g, m * 3 + 2, none⟩ r'.mv).heap[k]? = w1.heap[k]? := fun k hk hne => by
    rw [Below.heap_setCell _ ⟨g, m * 3 + 2, none⟩ _ k hne, Below.heap_setCell _ ⟨g, m * 3 + 1, none⟩ _ k hne]
  have hsz : ((w1.setCell ⟨g, m * 3 + 1, none⟩ r'.hv).setCell ⟨g, m * 3 + 2, none⟩ r'.mv).heap.size = w1.heap.size := by simp [World.setCell]
  refine ⟨?_, ?_, ?_, ?_, ?_⟩
  · have ho := (((h.own.below hb (Nat.le_refl _)).set (j := m * 3 + 1) r'.hv).set (j := m * 3 + 2) r'.mv)
    rw [flatR_set lm m (by omega) r' hnm] at ho
    exact ho
  · exact ((h.below.trans (hb.mono h.below.size)).setCell (p := ⟨g, m * 3 + 1, none⟩) hgb _).setCell (p := ⟨g, m * 3 + 2, none⟩) hgb _
  · refine ⟨by simp [hlm], fun j hj hj' => ?_⟩
    by_cases hjm : j = m
    · subst hjm
      rw [List.getElem_set_self]
      exact ⟨hn.name, hn.holds, hn.may⟩
    · rw [List.getElem_set_ne (by omega)]
      exact h.same.2 j hj (by omega)
  · intro j hj hj' hmj
    rw [List.getElem_set_ne (by omega)]
    exact h.old j hj (by omega) (by omega)
  · intro j hj hjm
    by_cases hjm' : j = m
    · subst hjm'
      rw [List.getElem_set_self]
      have h0 : OwnL w.heap.size g w1 r' := ⟨hn.hs, hn.ms, fun b o he => ⟨Nat.le_trans h.below.size (hn.hb b o he), by have := hn.hb b o he; omega⟩, fun b o he => ⟨Nat.le_trans h.below.size (hn.mb b o he), by have := hn.mb b o he; omega⟩⟩
      exact h0.kept hkeep1 (by rw [hsz]; exact Nat.le_refl _)
    · rw [List.getElem_set_ne (by omega)]
      exact (h.new j (by simpa using hj) (by omega)).kept hkeep (by rw [hsz]; exact hb.size)
/-- how each ends, at roles -/
def EachEnd (l : List Rl) (w : World) (e : Ending) (w' : World) : Prop := ∃ (va : Option Addr) (vc : Nat) (lm : List Rl), e = .returned (.slice va l.length vc) ∧ Below w.heap.size w w' ∧ Own w' w.heap.size 81 3 va vc l.length (flatR lm) ∧ SameD l lm ∧
  ∀ g, va = some ⟨g, 0, none⟩ → ∀ j (h : j < lm.length), OwnL w.heap.size g w' lm[j]
set_option maxHeartbeats 4000000 in
set_option maxRecDepth 100000 in
theorem eachRoles (v : Value) (l : List Rl) (w : World) (hl : l.length ≤ 1000) (hn : ∀ r ∈ l, r.holds.length ≤ 1048576 ∧ r.may.length ≤ 1048576) (h : Rls w.heap.size w v l) :
    Calls Tryz.prog 57 #[v, .func (.func 58) #[] #[]] w (EachEnd l w) := by
  have HCL := Lib.hid (cloneRoles v l w (by omega) h)
  obtain ⟨a, c, b, o, rfl, hle, hc⟩ := h.cells
  have HHS := Lib.hid (fun j (hj : j < l.length) W (hb : Below w.heap.size w W) => (⟨((hc.hs j hj).below hb).mono hb.size, ((hc.ms j hj).below hb).mono hb.size⟩ : Strs W.heap.size W l[j].hv l[j].holds ∧ Strs W.heap.size W l[j].mv l[j].may))
  have HN := Lib.hid hn
  obtain ⟨n, hn'⟩ : ∃ n, l.length = n := ⟨_, rfl⟩
  rw [hn'] at HCL ⊢
  have HLN := Lib.hid hn'
  have HE := Lib.hid (enters_of Tryz.func58 (by kernel_rfl) rfl : ∀ (args : Array Value) (w : World), (callFunc 58 args).run Tryz.prog w = .ok (.enter 58 args) w)
  have hl' : n ≤ 1000 := by omega
  clear h hc hn hn' hl
  go_enter Tryz.func57, Tryz.ntmps57
  go_wp2_with fail
  refine HCL.out.mono ?_
  rintro e w2 ⟨va, vc, rfl, hO, hb⟩
  have HO := Lib.hid hO
  have HB := Lib.hid hb
  clear hO hb HCL
  by_cases h0 : n = 0
  · subst h0
    have hnil : Hid (l = []) := List.eq_nil_of_length_eq_zero HLN.out
    go_wp2_with fail
    go_loopw [11] (fun i wr => i = .int .i64 0 ∧ wr = w2) (fun _ _ => 0)
    case atStart => exact ⟨rfl, rfl⟩
    case round =>
      obtain ⟨rfl, rfl⟩ := hrel
      go_wp2_with fail
      go_ret
      refine ⟨va, vc, [], by rw [HLN.out]; rfl, HB.out, ?_, ⟨by rw [HLN.out]; rfl, fun j hj => absurd hj (by rw [HLN.out]; omega)⟩, fun g _ j hj => absurd hj (Nat.not_lt_zero _)⟩
      have ho := HO.out
      rw [hnil.out] at ho
      rw [HLN.out]
      exact ho
  · obtain ⟨g, rfl⟩ : ∃ g, va = some ⟨g, 0, none⟩ := by
      rcases HO.out.block with ⟨_, h1, _⟩ | ⟨g, h1, _⟩
      · exact absurd h1 h0
      · exact ⟨g, h1⟩
    go_wp2_with fail
    go_loopw [11] (fun i wr => ∃ (m : Nat) (lm : List Rl), m ≤ n ∧ i = .int .i64 (m : Int) ∧ Hid (EachR w wr l m g vc lm)) (fun i _ => n - (intOf i).toNat)
    case atStart => exact ⟨0, l, Nat.zero_le _, rfl, by rw [← HLN.out] at HO; exact ⟨HO.out, HB.out, ⟨rfl, fun j _ _ => ⟨rfl, rfl, rfl⟩⟩, fun j _ _ _ => rfl, fun j _ h => absurd h (Nat.not_lt_zero _)⟩⟩
    case round =>
      obtain ⟨m, lm, hm, rfl, HR⟩ := hrel
      by_cases hml : m < n
      · have i1 : (m : Int) < (n : Int) := by omega
        have i2 : (0 : Int) ≤ (m : Int) := by omega
        have hmk : m < l.length := by rw [HLN.out]; exact hml
        have hmk' : m < lm.length := by rw [HR.out.same.1]; exact hmk
        obtain ⟨g', he, -, -, hcell, hfz⟩ := HR.out.own.cell (by have := HLN.out; omega)
        cases he
        obtain ⟨-, e1, e2⟩ := flatR_at lm m hmk'
        rw [HR.out.old m hmk hmk' (Nat.le_refl _)] at e1 e2
        obtain ⟨q1, q2⟩ := HN.out _ (List.getElem_mem hmk)
        obtain ⟨s1, s2⟩ := HHS.out m hmk wr HR.out.below
        have HTW := Lib.hid (twin2_walk g (m * 3) l[m] wr (hcell _ _ e1) (hcell _ _ e2) hfz s1 s2 q1 q2)
        have wr1 : IntKind.i64.wrap ((m : Int) + 1) = (m : Int) + 1 := wrap_i64 (by omega) (by omega)
        have he := HE.out
        clear hcell hfz e1 e2 q1 q2 s1 s2
        go_wp2_with fail
        refine HTW.out.mono ?_
        rintro e w4 ⟨rfl, r', w5, hb5, hn5, rfl⟩
        have HNX := Lib.hid (HR.out.next hmk hb5 hn5)
        clear hb5 hn5 HTW
        go_wp2_with fail
        exact ⟨⟨m + 1, _, by omega, rfl, HNX⟩, by simp only [intOf]; omega⟩
      · obtain rfl : m = n := by omega
        have i1 : ¬ (m : Int) < (m : Int) := by omega
        go_wp2_with fail
        go_ret
        refine ⟨_, vc, lm, by rw [HLN.out]; rfl, HR.out.below, HR.out.own, HR.out.same, fun g2 hg2 j hj => ?_⟩
        cases hg2
        exact HR.out.new j hj (by rw [HR.out.same.1, HLN.out] at hj; exact hj)
end Go.Proofs.YtinijohmdljieaaGreatDoor

namespace Go.Proofs.YtinijohmdljieaaGreatDoor
open Go.RowKit

set_option maxHeartbeats 4000000 in
set_option maxRecDepth 100000 in
theorem twin1_walk (g o : Nat) (a : Option Addr) (c : Nat) (rs : List ByteArray) (w : World) (c3 : w.cell? ⟨g, o + 3, none⟩ = some (.slice a rs.length c)) (hf : ∀ j, w.frozen? ⟨g, j, none⟩ = false) (hs : Strs w.heap.size w (.slice a rs.length c) rs) (hl : rs.length ≤ 1048576) :
    Calls Tryz.prog 56 #[.pointer (some ⟨g, o, none⟩)] w fun e w' => e = .returned (.tuple #[]) ∧ ∃ (va : Option Addr) (vc : Nat) (w1 : World), Below w.heap.size w w1 ∧ Own w1 w.heap.size 9 1 va vc rs.length (rs.map Value.string) ∧ w' = w1.setCell ⟨g, o + 3, none⟩ (.slice va rs.length vc) := by
  have hg : g < w.heap.size := World.block_lt_of_cell? w _ c3
  have HC := Lib.hid (cloneStrs (.slice a rs.length c) rs w hl hs)
  have HF := Lib.hid (fun W (hb : Below w.heap.size w W) => (by rw [hb.frozen (p := ⟨g, o + 3, none⟩) hg]; exact hf _ : W.frozen? ⟨g, o + 3, none⟩ = false))
  have HK := Lib.hid (fun W (hb : Below w.heap.size w W) => cellBelow2 hb c3)
  clear hs hf hl
  go_enter Tryz.func56, Tryz.ntmps56
  go_wp2_with fail
  refine HC.out.mono ?_
  rintro e w1 ⟨va, vc, rfl, hO, hb⟩
  have f3 := HF.out _ hb
  have k3 := HK.out _ hb
  have HO := Lib.hid hO
  have HB := Lib.hid hb
  clear hO hb HC c3
  go_wp2_with fail
  go_end0
  exact ⟨rfl, va, vc, w1, HB.out, HO.out, rfl⟩
/-- the list of one user, in memory of its own -/
def UserEnd (n s p : ByteArray) (rs : List ByteArray) (w : World) (e : Ending) (w' : World) : Prop := ∃ (g vc : Nat) (va : Option Addr) (c : Nat), e = .returned (.slice (some ⟨g, 0, none⟩) 1 vc) ∧ Below w.heap.size w w' ∧ Own w' w.heap.size 25 4 (some ⟨g, 0, none⟩) vc 1 [.string n, .string s, .string p, .slice va rs.length c] ∧
  Strs w'.heap.size w' (.slice va rs.length c) rs ∧ ∀ b o, va = some ⟨b, o, none⟩ → w.heap.size ≤ b
set_option maxHeartbeats 4000000 in
set_option maxRecDepth 100000 in
theorem eachUser (b : Nat) (n s p : ByteArray) (a : Option Addr) (c : Nat) (rs : List ByteArray) (w : World) (hc : Arr w b 25 [.string n, .string s, .string p, .slice a rs.length c]) (hs : Strs w.heap.size w (.slice a rs.length c) rs) (hl : rs.length ≤ 1048576) :
    Calls Tryz.prog 55 #[.slice (some ⟨b, 0, none⟩) 1 1, .func (.func 56) #[] #[]] w (UserEnd n s p rs w) := by
  obtain ⟨z, hz, hzs⟩ := elemUser.info
  obtain ⟨i, hi, hz0, hz1, hz2⟩ := info_parts hz
  have HCL := Lib.hid (AnyE.slices_Clone Tryz.cloneUser i z 4 72 hi hz0 hz1 hz2 hzs (by omega) elemUser.size b 0 1 1 [.string n, .string s, .string p, .slice a rs.length c] w rfl (by unfold maxLen; omega) (by omega) (fun j u hj => by
    have hlt : j < 4 := by
      rcases Nat.lt_or_ge j 4 with h | h
      · exact h
      · rw [List.getElem?_eq_none (by simpa using h)] at hj; cases hj
    rw [List.getElem?_eq_getElem (by simpa using hlt)] at hj
    injection hj with hj
    subst hj
    rw [Nat.zero_add]
    exact hc.cell (j := j) (by simpa using hlt)) (fun u hu => by
    simp only [List.mem_cons, List.not_mem_nil, or_false] at hu
    rcases hu with rfl | rfl | rfl | rfl <;> rfl))
  have HS := Lib.hid (fun W (hb : Below w.heap.size w W) => (hs.below hb).mono hb.size)
  have he := (enters_of Tryz.func56 (by kernel_rfl) rfl : ∀ (args : Array Value) (w : World), (callFunc 56 args).run Tryz.prog w = .ok (.enter 56 args) w)
  clear hz hzs hi hz0 hz1 hz2 hc hs
  go_enter Tryz.func55, Tryz.ntmps55
  go_wp2_with fail
  refine HCL.out.mono ?_
  rintro e w2 ⟨v2, rfl, hr, -, hb⟩
  obtain ⟨g, vc, rfl⟩ : ∃ g vc, v2 = .slice (some ⟨g, 0, none⟩) 1 vc := by
    rcases hr.2 with ⟨_, h1⟩ | ⟨g, cap, _, hv, _⟩
    · cases h1
    · exact ⟨g, cap, hv⟩
  have HO : Hid (Own w2 w.heap.size 25 4 (some ⟨g, 0, none⟩) vc 1 [.string n, .string s, .string p, .slice a rs.length c]) := ⟨hr⟩
  have HB := Lib.hid hb
  clear hr hb HCL
  go_wp2_with fail
  go_loopw [11] (fun i wr => (i = .int .i64 0 ∧ wr = w2) ∨ (i = .int .i64 1 ∧ ∃ (va : Option Addr) (c' : Nat), Hid (Below w.heap.size w wr) ∧ Hid (Own wr w.heap.size 25 4 (some ⟨g, 0, none⟩) vc 1 [.string n, .string s, .string p, .slice va rs.length c']) ∧ Hid (Strs wr.heap.size wr (.slice va rs.length c') rs) ∧ Hid (∀ b o, va = some ⟨b, o, none⟩ → w.heap.size ≤ b))) (fun i _ => 1 - (intOf i).toNat)
  case atStart => exact .inl ⟨rfl, rfl⟩
  case round =>
    rcases hrel with ⟨rfl, rfl⟩ | ⟨rfl, va, c', HB3, HO3, HS3, HV3⟩
    · obtain ⟨g', hge, hgb, hgl, hcell, hfz⟩ := HO.out.cell (by omega)
      cases hge
      have HTW := Lib.hid (twin1_walk g 0 a c rs wr (hcell 3 _ rfl) hfz (HS.out _ HB.out) hl)
      clear hcell hfz
      go_wp2_with fail
      refine HTW.out.mono ?_
      rintro e w4 ⟨rfl, va, vd, w5, hb5, hO5, rfl⟩
      have ho := (HO.out.below hb5 (Nat.le_refl _)).set (j := 0 + 3) (.slice va rs.length vd)
      have hst := hO5.strsOf
      have HV : Hid (∀ b o, va = some ⟨b, o, none⟩ → w.heap.size ≤ b) := fun b o he => Nat.le_trans HB.out.size (hO5.lt_any he)
      have hst2 := strs_kept (w' := w5.setCell ⟨g, 0 + 3, none⟩ (.slice va rs.length vd)) (g := g) hst (fun b o he => by have := hO5.lt_any he; omega) (fun k _ hne => Below.heap_setCell w5 ⟨g, 0 + 3, none⟩ _ k hne) (by simp [World.setCell])
      have hbb := (HB.out.trans (hb5.mono HB.out.size)).setCell (p := ⟨g, 0 + 3, none⟩) hgb (.slice va rs.length vd)
      have H1 := Lib.hid ho
      have H2 := Lib.hid hst2
      have H3 := Lib.hid hbb
      clear hb5 hO5 ho hst hst2 hbb HTW
      go_wp2_with fail
      exact ⟨.inr ⟨rfl, va, vd, H3, H1, H2, HV⟩, by simp [intOf]⟩
    · go_wp2_with fail
      go_ret
      exact ⟨g, vc, va, c', rfl, HB3.out, HO3.out, HS3.out, HV3.out⟩
end Go.Proofs.YtinijohmdljieaaGreatDoor

namespace Go.Proofs.YtinijohmdljieaaGreatDoor
open Go.RowKit

set_option maxHeartbeats 4000000 in
set_option maxRecDepth 100000 in
theorem eachNilV (t : Value) (w : World) : Calls Tryz.prog 59 #[.slice none 0 0, t] w fun e w' => e = .returned (.slice none 0 0) ∧ w' = w := by
  have HCL := Lib.hid (AnyE.slices_Clone_nil Tryz.cloneVersion 0 0 w)
  go_enter Tryz.func59, Tryz.ntmps59
  go_wp2_with fail
  refine HCL.out.mono ?_
  rintro e w2 ⟨rfl, rfl⟩
  go_wp2_with fail
  go_loopw [11] (fun i wr => i = .int .i64 0 ∧ wr = w2) (fun _ _ => 0)
  case atStart => exact ⟨rfl, rfl⟩
  case round =>
    obtain ⟨rfl, rfl⟩ := hrel
    go_wp2_with fail
    go_ret
    exact ⟨rfl, rfl⟩
set_option maxHeartbeats 4000000 in
set_option maxRecDepth 100000 in
theorem eachNilC (t : Value) (w : World) : Calls Tryz.prog 61 #[.slice none 0 0, t] w fun e w' => e = .returned (.slice none 0 0) ∧ w' = w := by
  have HCL := Lib.hid (AnyE.slices_Clone_nil Tryz.cloneCase 0 0 w)
  go_enter Tryz.func61, Tryz.ntmps61
  go_wp2_with fail
  refine HCL.out.mono ?_
  rintro e w2 ⟨rfl, rfl⟩
  go_wp2_with fail
  go_loopw [11] (fun i wr => i = .int .i64 0 ∧ wr = w2) (fun _ _ => 0)
  case atStart => exact ⟨rfl, rfl⟩
  case round =>
    obtain ⟨rfl, rfl⟩ := hrel
    go_wp2_with fail
    go_ret
    exact ⟨rfl, rfl⟩
theorem cloneNilT (w : World) : Calls Tryz.prog 62 #[.slice none 0 0] w fun e w' => e = .returned (.slice none 0 0) ∧ w' = w := AnyE.slices_Clone_nil Tryz.cloneTimer 0 0 w
theorem cloneNilW (w : World) : Calls Tryz.prog 63 #[.slice none 0 0] w fun e w' => e = .returned (.slice none 0 0) ∧ w' = w := AnyE.slices_Clone_nil Tryz.cloneWork 0 0 w
theorem cloneNilR (w : World) : Calls Tryz.prog 64 #[.slice none 0 0] w fun e w' => e = .returned (.slice none 0 0) ∧ w' = w := AnyE.slices_Clone_nil Tryz.cloneRecord 0 0 w
theorem cloneNilS (w : World) : Calls Tryz.prog 65 #[.slice none 0 0] w fun e w' => e = .returned (.slice none 0 0) ∧ w' = w := AnyE.slices_Clone_nil Tryz.cloneSession 0 0 w
end Go.Proofs.YtinijohmdljieaaGreatDoor
