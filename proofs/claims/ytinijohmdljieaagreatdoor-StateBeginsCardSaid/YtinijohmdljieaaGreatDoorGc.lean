/- Roles in the order of their names: a sorted list with no name twice is one alone; the insertion by swaps. append, told with the block that the list lies in behind it. Roles that may be: the two ways of judging them are one. -/
import Derived.Test.YtinijohmdljieaaGreatDoorGa
import Derived.Sort.Walk0
import Derived.Sort.Statements
import Derived.Maps.AppendAt
import Derived.Test.YtinijohmdljieaaGreatDoorRefRoles
import Derived.Test.YtinijohmdljieaaGreatDoorRolesClosed0
namespace Go.Proofs.YtinijohmdljieaaGreatDoor
open Go.RowKit

/-- ahead of -/
abbrev ltb (a b : ByteArray) : Bool := Op.bytesLess a.toList b.toList
theorem ltb_eq (a b : ByteArray) : ltb a b = decide (a.data.toList < b.data.toList) := by
  unfold ltb
  rw [bytesLess_eq, Go.ByteArray.toList_eq, Go.ByteArray.toList_eq]
theorem ltb_irrefl (a : ByteArray) : ltb a a = false := by rw [ltb_eq]; exact decide_eq_false (List.lt_irrefl _)
theorem ltb_trans {a b c : ByteArray} (h : ltb a b = true) (k : ltb b c = true) : ltb a c = true := by
  rw [ltb_eq, decide_eq_true_eq] at *
  exact List.lt_trans h k
theorem ltb_ntrans {a b c : ByteArray} (h : ltb a b = false) (k : ltb b c = false) : ltb a c = false := by
  rw [ltb_eq, decide_eq_false_iff_not] at *
  exact List.not_lt.2 (List.le_trans (List.not_lt.1 k) (List.not_lt.1 h))
theorem ltb_asymm {a b : ByteArray} (h : ltb a b = true) : ltb b a = false := by
  cases hb : ltb b a with
  | false => rfl
  | true => have := ltb_trans h hb; rw [ltb_irrefl] at this; cases this
theorem ltb_anti {a b : ByteArray} (h : ltb a b = false) (k : ltb b a = false) : a = b := by
  rw [ltb_eq, decide_eq_false_iff_not] at *
  have e : a.data.toList = b.data.toList := List.le_antisymm (List.not_lt.1 k) (List.not_lt.1 h)
  cases a; cases b; simp at e; simp [e]
/-- cmp.Compare -/
def cmpB (a b : ByteArray) : Int := if ltb a b then -1 else if !(ltb a b || a.toList == b.toList) then 1 else 0
theorem cmpB_neg (a b : ByteArray) : decide (cmpB a b < 0) = ltb a b := by
  unfold cmpB
  cases ltb a b
  · by_cases h : (!(false || a.toList == b.toList)) = true
    · rw [if_neg (by simp), if_pos h]; rfl
    · rw [if_neg (by simp), if_neg h]; rfl
  · rfl

/-- a role's data -/
def datR (r : Rl) : ByteArray × List ByteArray × List ByteArray := (r.name, r.holds, r.may)
/-- no later one is ahead of an earlier one -/
def UpR (l : List Rl) : Prop := ∀ i j (hi : i < l.length) (hj : j < l.length), i < j → ltb l[j].name l[i].name = false
theorem sorted_unique : ∀ {l m : List (ByteArray × List ByteArray × List ByteArray)}, (l.map Prod.fst).Nodup → l.Perm m → l.Pairwise (fun a b => ltb b.1 a.1 = false) → m.Pairwise (fun a b => ltb b.1 a.1 = false) → l = m
  | [], m, _, hp, _, _ => (hp.nil_eq)
  | x :: l, [], _, hp, _, _ => by have := hp.length_eq; simp at this
  | x :: l, y :: m, hn, hp, hl, hm => by
    obtain ⟨hl1, hl2⟩ := List.pairwise_cons.1 hl
    obtain ⟨hm1, hm2⟩ := List.pairwise_cons.1 hm
    have hn' : ∀ z ∈ l, x.1 ≠ z.1 := by
      intro z hz he
      rw [List.map_cons, List.nodup_cons] at hn
      exact hn.1 (he ▸ List.mem_map_of_mem hz)
    have e : x = y := by
      rcases List.mem_cons.1 (hp.symm.subset (List.mem_cons_self ..)) with h | h
      · exact h.symm
      · rcases List.mem_cons.1 (hp.subset (List.mem_cons_self ..)) with h' | h'
        · exact h'
        · exact absurd (ltb_anti (hm1 x h') (hl1 y h)) (hn' y h)
    subst e
    rw [sorted_unique (by rw [List.map_cons, List.nodup_cons] at hn; exact hn.2) (List.Perm.cons_inv hp) hl2 hm2]
theorem UpR.pairwise {l : List Rl} (h : UpR l) : (l.map datR).Pairwise (fun a b => ltb b.1 a.1 = false) := by
  rw [List.pairwise_map, List.pairwise_iff_getElem]
  intro i j hi hj hij
  exact h i j hi hj hij
/-- two lists of roles in order, of the same data, no name twice: the same data in the same order -/
theorem upR_unique {a b : List Rl} (hn : (a.map Rl.name).Nodup) (hp : (a.map datR).Perm (b.map datR)) (ha : UpR a) (hb : UpR b) : a.map datR = b.map datR :=
  sorted_unique (by rw [List.map_map]; exact hn) hp ha.pairwise hb.pairwise
theorem sameD_map {l m : List Rl} : SameD l m ↔ m.map datR = l.map datR := by
  constructor
  · rintro ⟨h1, h2⟩
    apply List.ext_getElem (by simp [h1])
    intro i hi hj
    obtain ⟨q1, q2, q3⟩ := h2 i (by simpa using hj) (by simpa using hi)
    simp [datR, q1, q2, q3]
  · intro h
    have hl : m.length = l.length := by simpa using congrArg List.length h
    refine ⟨hl, fun j h1 h2 => ?_⟩
    have e : (m.map datR)[j]'(by simpa using h2) = (l.map datR)[j]'(by simpa using h1) := by simp only [h]
    simpa [datR] using e

/-- two neighbours turned -/
def swapR (l : List Rl) (k : Nat) : List Rl := match l[k]?, l[k + 1]? with
  | some x, some y => (l.set (k + 1) x).set k y
  | _, _ => l
theorem swapR_eq {l : List Rl} {k : Nat} (h : k + 1 < l.length) : swapR l k = (l.set (k + 1) l[k]).set k l[k + 1] := by
  unfold swapR
  rw [List.getElem?_eq_getElem (by omega), List.getElem?_eq_getElem h]
theorem swap_perm : ∀ (l : List Rl) (k : Nat) (h : k + 1 < l.length), ((l.set (k + 1) (l[k]'(by omega))).set k l[k + 1]).Perm l
  | x :: y :: l, 0, _ => List.Perm.swap _ _ _
  | x :: l, k + 1, h => by
    have := swap_perm l k (by simpa using h)
    simpa using this
/-- the insertion under way: the i first in order but for the one at k, that is ahead of none behind it -/
structure InsR (l : List Rl) (i k : Nat) : Prop where
  ki : k ≤ i
  il : i < l.length
  ord : ∀ a b (ha : a < l.length) (hb : b < l.length), a < b → b ≤ i → a ≠ k → b ≠ k → ltb l[b].name l[a].name = false
  top : ∀ b (hb : b < l.length) (hk : k < l.length), k < b → b ≤ i → ltb l[b].name l[k].name = false
/-- the i first in order -/
def UpTo (l : List Rl) (i : Nat) : Prop := ∀ a b (ha : a < l.length) (hb : b < l.length), a < b → b < i → ltb l[b].name l[a].name = false
theorem InsR.start {l : List Rl} {i : Nat} (h : UpTo l i) (hi : i < l.length) : InsR l i i :=
  ⟨Nat.le_refl _, hi, fun a b ha hb hab hbi h1 h2 => h a b ha hb hab (by omega), fun b hb hk h1 h2 => by omega⟩
theorem InsR.stop {l : List Rl} {i k : Nat} (h : InsR l i k) (h0 : ∀ (hk : 0 < k), ltb (l[k]'(Nat.lt_of_le_of_lt h.ki h.il)).name (l[k - 1]'(by have := h.ki; have := h.il; omega)).name = false) : UpTo l (i + 1) := by
  intro a b ha hb hab hbi
  by_cases h1 : a = k
  · subst h1
    exact h.top b hb ha hab (by omega)
  · by_cases h2 : b = k
    · subst h2
      have hq := h0 (by omega)
      by_cases h3 : a = b - 1
      · subst h3; exact hq
      · exact ltb_ntrans hq (h.ord a (b - 1) ha (by omega) (by omega) (by have := h.ki; omega) h1 (by omega))
    · exact h.ord a b ha hb hab (by omega) h1 h2
theorem swapR_at {l : List Rl} {k : Nat} (h : k + 1 < l.length) (j : Nat) (hj : j < l.length) (hj' : j < ((l.set (k + 1) l[k]).set k l[k + 1]).length) : ((l.set (k + 1) l[k]).set k l[k + 1])[j] = if j = k then l[k + 1] else if j = k + 1 then l[k] else l[j] := by
  rw [List.getElem_set]
  by_cases h1 : k = j
  · rw [if_pos h1, if_pos h1.symm]
  · rw [if_neg h1, if_neg (Ne.symm h1), List.getElem_set]
    by_cases h2 : k + 1 = j
    · rw [if_pos h2, if_pos h2.symm]
    · rw [if_neg h2, if_neg (Ne.symm h2)]
theorem InsR.swap {l : List Rl} {i k : Nat} (h : InsR l i (k + 1)) (hk : k + 1 < l.length) (h0 : ltb l[k + 1].name l[k].name = true) : InsR ((l.set (k + 1) l[k]).set k l[k + 1]) i k := by
  have hki := h.ki
  refine ⟨by omega, by simpa using h.il, ?_, ?_⟩
  · intro a b ha hb hab hbi h1 h2
    have ha' : a < l.length := by simpa using ha
    have hb' : b < l.length := by simpa using hb
    rw [swapR_at hk a ha' ha, swapR_at hk b hb' hb, if_neg h1, if_neg h2]
    by_cases h3 : a = k + 1
    · rw [if_pos h3, if_neg (by omega)]
      exact h.ord k b (by omega) hb' (by omega) hbi (by omega) (by omega)
    · rw [if_neg h3]
      by_cases h4 : b = k + 1
      · rw [if_pos h4]
        exact h.ord a k ha' (by omega) (by omega) (by omega) h3 (by omega)
      · rw [if_neg h4]
        exact h.ord a b ha' hb' hab hbi h3 h4
  · intro b hb hk' hkb hbi
    have hb' : b < l.length := by simpa using hb
    rw [swapR_at hk b hb' hb, swapR_at hk k (by omega) hk', if_neg (by omega), if_pos rfl]
    by_cases h4 : b = k + 1
    · rw [if_pos h4]; exact ltb_asymm h0
    · rw [if_neg h4]
      exact h.top b hb' hk (by omega) hbi
end Go.Proofs.YtinijohmdljieaaGreatDoor

namespace Go.Proofs.YtinijohmdljieaaGreatDoor
open Go.RowKit

theorem Own.appAt {P : Program} {T E : TypeId} {k bytes : Nat} {w : World} {base vc n : Nat} {va : Option Addr} {cells : List Value} (hE : Elem P T E k bytes) (ty : TypeId) (h : Own w base E k va vc n cells) (hbase : base ≤ w.heap.size)
    (b off c : Nat) (news : List Value) (hl : news.length = k) (hnews : ∀ j u, news[j]? = some u → w.cell? ⟨b, off + j, none⟩ = some u) (h1 : ∀ u ∈ news, u.oneCell' = true)
    (h63 : n + 1 ≤ maxLen) (hbytes : (n + 1) * bytes ≤ 140737488355328) :
    ∃ g' vc' w', (Builtin.append_ #[T, T] ty #[.slice va n vc, .slice (some ⟨b, off, none⟩) 1 c]).run P w = .ok (.slice (some ⟨g', 0, none⟩) (n + 1) vc') w' ∧ Own w' base E k (some ⟨g', 0, none⟩) vc' (n + 1) (cells ++ news) ∧ w.grownBy w' (blockOf va) ∧ (va = some ⟨g', 0, none⟩ ∨ g' = w.heap.size) := by
  obtain ⟨z, hz, hzs⟩ := hE.info
  obtain ⟨i, hi, hz0, hz1, hz2⟩ := info_parts hz
  obtain ⟨v', w', hrun, hown, hg, -, hat⟩ := Go.run_append_own_at (P := P) (w := w) base T ty E i z k bytes hE.sl hi hz0 hz1 hz2 hzs hE.pos (.slice va n vc) n cells h.row ⟨b, off, none⟩ 1 c news (by rw [hl, Nat.one_mul]) (fun j u hj => by rw [Addr.add_lit]; exact hnews j u hj) h1 h63 hbytes hbase
  have hv : ∃ g' vc', v' = .slice (some ⟨g', 0, none⟩) (n + 1) vc' := by
    rcases hown.2 with ⟨_, h0⟩ | ⟨g, cap, _, hv, _⟩
    · omega
    · exact ⟨_, _, hv⟩
  obtain ⟨g', vc', rfl⟩ := hv
  refine ⟨g', vc', w', hrun, ⟨hown⟩, ?_, ?_⟩
  · cases va <;> exact hg
  · rcases hat with h2 | h2
    · left
      rcases h.block with ⟨rfl, _⟩ | ⟨g, rfl, _⟩
      · simp [Value.ownBlock] at h2
      · simp [Value.ownBlock] at h2
        rw [h2]
    · right
      simpa [Value.ownBlock] using h2
end Go.Proofs.YtinijohmdljieaaGreatDoor

namespace Go.Proofs.YtinijohmdljieaaGreatDoor
open Go.RowKit

/-- roles that may be: the two ways of judging them are one -/
theorem byName_short {l : List Rl} : ¬ (byNameL l).length < l.length → byNameL l = l ∧ (l.map Rl.name).Nodup := by
  intro h
  have key : ∀ (l acc : List Rl), (l.foldl putR acc).length ≤ acc.length + l.length ∧ ((l.foldl putR acc).length = acc.length + l.length → (acc.map Rl.name).Nodup → l.foldl putR acc = acc ++ l ∧ ((acc ++ l).map Rl.name).Nodup) := by
    intro l
    induction l with
    | nil => intro acc; simp
    | cons r l ih =>
      intro acc
      obtain ⟨i1, i2⟩ := ih (putR acc r)
      have hp := putR_length acc r
      simp only [List.foldl_cons, List.length_cons]
      refine ⟨by omega, fun he hn => ?_⟩
      cases hf : findR acc r.name with
      | none =>
        rw [putR_none hf] at i1 i2 he ⊢
        have hn2 : ((acc ++ [r]).map Rl.name).Nodup := by
          rw [List.map_append, List.nodup_append]
          refine ⟨hn, by simp, fun a ha c hc => ?_⟩
          simp at hc
          obtain ⟨x, hx, rfl⟩ := List.mem_map.1 ha
          rw [hc]
          exact findR_none hf x hx
        have := i2 (by simp at he ⊢; omega) hn2
        simpa using this
      | some r0 =>
        exfalso
        have h5 : ∀ acc : List Rl, findR acc r.name = some r0 → (putR acc r).length = acc.length := by
          intro acc
          induction acc with
          | nil => intro h; cases h
          | cons x acc ih2 =>
            intro h
            simp only [findR] at h
            simp only [putR]
            split
            · simp
            · rename_i hne
              rw [if_neg hne] at h
              simp [ih2 h]
        have := h5 acc hf
        omega
  obtain ⟨k1, k2⟩ := key l []
  have := k2 (by unfold byNameL at h; simp at k1 ⊢; omega) (by simp)
  simpa [byNameL] using this
theorem byName_nodup {l : List Rl} (h : (l.map Rl.name).Nodup) : byNameL l = l := by
  have key : ∀ (l acc : List Rl), ((acc ++ l).map Rl.name).Nodup → l.foldl putR acc = acc ++ l := by
    intro l
    induction l with
    | nil => intro acc _; simp
    | cons r l ih =>
      intro acc hn
      have hf : findR acc r.name = none := by
        cases hf : findR acc r.name with
        | none => rfl
        | some r0 =>
          exfalso
          obtain ⟨h1, h2⟩ := findR_name hf
          rw [List.map_append, List.nodup_append] at hn
          exact hn.2.2 r0.name (List.mem_map_of_mem h2) r.name (by simp) h1
      rw [List.foldl_cons, putR_none hf, ih (acc ++ [r]) (by simpa using hn)]
      simp
  simpa [byNameL] using key l [] (by simpa using h)

theorem place_nodup {l : List Rl} (h : (l.map Rl.name).Nodup) {k : Nat} (hk : k < l.length) : placeI l l[k].name = k := by
  rcases placeI_cases l l[k].name with ⟨-, h2⟩ | ⟨j, hj, h1, h2, h3⟩
  · exact absurd rfl (findR_none h2 l[k] (List.getElem_mem hk))
  · have : j = k := by
      have h4 : (l.map Rl.name)[j]'(by simpa using hj) = (l.map Rl.name)[k]'(by simpa using hk) := by simpa using h3
      exact (List.getElem_inj h).1 h4
    rw [h1, this]

theorem chk_same {l : List Rl} {x : Int} (h : chkR l x) : x = chkP l := by
  obtain ⟨h1, h2, h3⟩ := h
  unfold chkP
  by_cases h32 : 32 < l.length
  · rw [if_pos h32]; exact h1 h32
  rw [if_neg h32]
  have hplace : ∀ n, decide (0 ≤ placeI l n) = (findR l n).isSome := by
    intro n
    rcases placeI_cases l n with ⟨e1, e2⟩ | ⟨j, hj, e1, e2, -⟩
    · rw [e1, e2]; rfl
    · rw [e1, e2]; simp
  by_cases hA : okAll l l.length
  · rw [h2 h32 hA]
    have hnd : (l.map Rl.name).Nodup := by
      rw [List.nodup_iff_pairwise_ne, List.pairwise_iff_getElem]
      intro i j hi hj hij he
      have hi' : i < l.length := by simpa using hi
      have hj' : j < l.length := by simpa using hj
      have a1 := hA i hi' hi'
      have a2 := hA j hj' hj'
      simp only [okRoleAt, Bool.and_eq_true, beq_iff_eq] at a1 a2
      have b1 := a1.1.1.1.1.2
      have b2 := a2.1.1.1.1.2
      simp at he
      rw [he, b2] at b1
      omega
    have hbn := byName_nodup hnd
    rw [hbn, if_neg (by omega), if_pos]
    rw [List.all_eq_true]
    intro r hr
    obtain ⟨i, hi, rfl⟩ := List.mem_iff_getElem.1 hr
    have a1 := hA i hi hi
    simp only [okRoleAt, hplace] at a1
    simp only [okRole]
    simp only [Bool.and_eq_true] at a1 ⊢
    exact ⟨⟨⟨⟨a1.1.1.1.1.1, a1.1.1.1.2⟩, a1.1.1.2⟩, a1.1.2⟩, a1.2⟩
  · rw [h3 h32 hA]
    by_cases hlen : (byNameL l).length < l.length
    · rw [if_pos hlen]
    · obtain ⟨hbn, hnd⟩ := byName_short hlen
      rw [hbn, if_neg (by omega), if_neg]
      intro hall
      apply hA
      intro i hi _
      have a1 := List.all_eq_true.1 hall l[i] (List.getElem_mem hi)
      simp only [okRole, Bool.and_eq_true] at a1
      simp only [okRoleAt, hplace, Bool.and_eq_true, place_nodup hnd hi]
      exact ⟨⟨⟨⟨⟨a1.1.1.1.1, by simp⟩, a1.1.1.1.2⟩, a1.1.1.2⟩, a1.1.2⟩, a1.2⟩

theorem chk_ok {l : List Rl} (h : chkP l = 0) : (l.map Rl.name).Nodup ∧ l.length ≤ 32 ∧ ∀ r ∈ l, r.holds.length ≤ 32 ∧ r.may.length ≤ 1024 := by
  unfold chkP at h
  split at h
  · cases h
  rename_i h1
  split at h
  · cases h
  rename_i h2
  split at h
  · rename_i h3
    refine ⟨(byName_short h2).2, by omega, fun r hr => ?_⟩
    have := List.all_eq_true.1 h3 r hr
    simp only [okRole, Bool.and_eq_true, decide_eq_true_eq] at this
    exact ⟨this.1.1.1.2, this.1.1.2⟩
  · cases h
end Go.Proofs.YtinijohmdljieaaGreatDoor
