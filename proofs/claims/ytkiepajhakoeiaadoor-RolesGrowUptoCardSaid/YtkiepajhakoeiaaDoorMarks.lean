/- Marks on roles: the plain part of docketref20's asked. -/
import Derived.Test.YtkiepajhakoeiaaDoorRefRoles
import Derived.Test.YtkiepajhakoeiaaDoorRolesClosed
namespace Go.Proofs.YtkiepajhakoeiaaDoor
open Go.RowKit

/-- roles that may be: the two ways of judging them are one -/
theorem byName_short {l : List Rl} : ¬ (byNameL l).length < l.length → byNameL l = l ∧ (l.map Rl.name).Nodup := by
  intro h
  have key : ∀ (l acc : List Rl), (l.foldl putR acc).length ≤ acc.length + l.length ∧ ((l.foldl putR acc).length = acc.length + l.length → (acc.map Rl.name).Nodup → l.foldl putR acc = acc ++ l ∧ ((acc ++ l).map Rl.name).Nodup) := by
    intro l
    induction l with
    | nil => intro acc; simp
    | cons r l ih =>
      intro acc
      obtain ⟨i1, i2⟩ := ih (putR acc r)
      have hp := putR_length acc r
      simp only [List.foldl_cons, List.length_cons]
      refine ⟨by omega, fun he hn => ?_⟩
      cases hf : findR acc r.name with
      | none =>
        rw [putR_none hf] at i1 i2 he ⊢
        have hn2 : ((acc ++ [r]).map Rl.name).Nodup := by
          rw [List.map_append, List.nodup_append]
          refine ⟨hn, by simp, fun a ha c hc => ?_⟩
          simp at hc
          obtain ⟨x, hx, rfl⟩ := List.mem_map.1 ha
          rw [hc]
          exact findR_none hf x hx
        have := i2 (by simp at he ⊢; omega) hn2
        simpa using this
      | some r0 =>
        exfalso
        have h5 : ∀ acc : List Rl, findR acc r.name = some r0 → (putR acc r).length = acc.length := by
          intro acc
          induction acc with
          | nil => intro h; cases h
          | cons x acc ih2 =>
            intro h
            simp only [findR] at h
            simp only [putR]
            split
            · simp
            · rename_i hne
              rw [if_neg hne] at h
              simp [ih2 h]
        have := h5 acc hf
        omega
  obtain ⟨k1, k2⟩ := key l []
  have := k2 (by unfold byNameL at h; simp at k1 ⊢; omega) (by simp)
  simpa [byNameL] using this
theorem byName_nodup {l : List Rl} (h : (l.map Rl.name).Nodup) : byNameL l = l := by
  have key : ∀ (l acc : List Rl), ((acc ++ l).map Rl.name).Nodup → l.foldl putR acc = acc ++ l := by
    intro l
    induction l with
    | nil => intro acc _; simp
    | cons r l ih =>
      intro acc hn
      have hf : findR acc r.name = none := by
        cases hf : findR acc r.name with
        | none => rfl
        | some r0 =>
          exfalso
          obtain ⟨h1, h2⟩ := findR_name hf
          rw [List.map_append, List.nodup_append] at hn
          exact hn.2.2 r0.name (List.mem_map_of_mem h2) r.name (by simp) h1
      rw [List.foldl_cons, putR_none hf, ih (acc ++ [r]) (by simpa using hn)]
      simp
  simpa [byNameL] using key l [] (by simpa using h)

theorem place_nodup {l : List Rl} (h : (l.map Rl.name).Nodup) {k : Nat} (hk : k < l.length) : placeI l l[k].name = k := by
  rcases placeI_cases l l[k].name with ⟨-, h2⟩ | ⟨j, hj, h1, h2, h3⟩
  · exact absurd rfl (findR_none h2 l[k] (List.getElem_mem hk))
  · have : j = k := by
      have h4 : (l.map Rl.name)[j]'(by simpa using hj) = (l.map Rl.name)[k]'(by simpa using hk) := by simpa using h3
      exact (List.getElem_inj h).1 h4
    rw [h1, this]

theorem chk_same {l : List Rl} {x : Int} (h : chkR l x) : x = chkP l := by
  obtain ⟨h1, h2, h3⟩ := h
  unfold chkP
  by_cases h32 : 32 < l.length
  · rw [if_pos h32]; exact h1 h32
  rw [if_neg h32]
  have hplace : ∀ n, decide (0 ≤ placeI l n) = (findR l n).isSome := by
    intro n
    rcases placeI_cases l n with ⟨e1, e2⟩ | ⟨j, hj, e1, e2, -⟩
    · rw [e1, e2]; rfl
    · rw [e1, e2]; simp
  by_cases hA : okAll l l.length
  · rw [h2 h32 hA]
    have hnd : (l.map Rl.name).Nodup := by
      rw [List.nodup_iff_pairwise_ne, List.pairwise_iff_getElem]
      intro i j hi hj hij he
      have hi' : i < l.length := by simpa using hi
      have hj' : j < l.length := by simpa using hj
      have a1 := hA i hi' hi'
      have a2 := hA j hj' hj'
      simp only [okRoleAt, Bool.and_eq_true, beq_iff_eq] at a1 a2
      have b1 := a1.1.1.1.1.2
      have b2 := a2.1.1.1.1.2
      simp at he
      rw [he, b2] at b1
      omega
    have hbn := byName_nodup hnd
    rw [hbn, if_neg (by omega), if_pos]
    rw [List.all_eq_true]
    intro r hr
    obtain ⟨i, hi, rfl⟩ := List.mem_iff_getElem.1 hr
    have a1 := hA i hi hi
    simp only [okRoleAt, hplace] at a1
    simp only [okRole]
    simp only [Bool.and_eq_true] at a1 ⊢
    exact ⟨⟨⟨⟨a1.1.1.1.1.1, a1.1.1.1.2⟩, a1.1.1.2⟩, a1.1.2⟩, a1.2⟩
  · rw [h3 h32 hA]
    by_cases hlen : (byNameL l).length < l.length
    · rw [if_pos hlen]
    · obtain ⟨hbn, hnd⟩ := byName_short hlen
      rw [hbn, if_neg (by omega), if_neg]
      intro hall
      apply hA
      intro i hi _
      have a1 := List.all_eq_true.1 hall l[i] (List.getElem_mem hi)
      simp only [okRole, Bool.and_eq_true] at a1
      simp only [okRoleAt, hplace, Bool.and_eq_true, place_nodup hnd hi]
      exact ⟨⟨⟨⟨⟨a1.1.1.1.1, by simp⟩, a1.1.1.1.2⟩, a1.1.1.2⟩, a1.1.2⟩, a1.2⟩

/-- marks -/
def mkd (is : List Bool) (i : Nat) : Bool := is.getD i false
theorem mkd_set {is : List Bool} {p : Nat} (hp : p < is.length) (i : Nat) : mkd (is.set p true) i = (mkd is i || (i == p)) := by
  simp only [mkd, List.getD_eq_getElem?_getD, List.getElem?_set]
  by_cases h : p = i
  · subst h; simp [hp]
  · simp [h, Ne.symm h]
theorem set_same {is : List Bool} {p : Nat} (hp : p < is.length) (h : mkd is p = true) : is.set p true = is := by
  apply List.ext_getElem
  · simp
  · intro i h1 h2
    rw [List.getElem_set]
    split
    · subst p
      simp [mkd, List.getD_eq_getElem?_getD, h2] at h
      exact h.symm
    · rfl
def below (a b : List Bool) : Prop := a.length = b.length ∧ ∀ i, mkd a i = true → mkd b i = true
theorem count_lt : ∀ {a b : List Bool}, below a b → a ≠ b → a.count true < b.count true
  | [], [], _, h => absurd rfl h
  | [], _ :: _, h, _ => by have := h.1; simp at this
  | _ :: _, [], h, _ => by have := h.1; simp at this
  | x :: a, y :: b, h, hne => by
    have h0 : x = true → y = true := fun hx => by have := h.2 0 (by simp [mkd, hx]); simpa [mkd] using this
    have ht : below a b := ⟨by simpa using h.1, fun i hi => by have := h.2 (i + 1) (by simpa [mkd] using hi); simpa [mkd] using this⟩
    by_cases he : a = b
    · subst he
      have hxy : x ≠ y := fun e => hne (by rw [e])
      cases x <;> cases y <;> simp at hxy h0 ⊢
    · have := count_lt ht he
      cases x <;> cases y <;> simp at h0 ⊢ <;> omega
theorem count_le {a b : List Bool} (h : below a b) : a.count true ≤ b.count true := by
  by_cases he : a = b
  · rw [he]; exact Nat.le_refl _
  · exact Nat.le_of_lt (count_lt h he)
theorem all_of_count {a : List Bool} (h : a.length ≤ a.count true) (i : Nat) (hi : i < a.length) : mkd a i = true := by
  have h1 : a.count true = a.length := by have := List.count_le_length (a := true) (l := a); omega
  have := List.count_eq_length.1 h1
  have h2 := this a[i] (List.getElem_mem hi)
  simp [mkd, List.getD_eq_getElem?_getD, hi, ← h2]

/-- every mark is of a role that names come to -/
def Sound (l : List Rl) (names : List ByteArray) (is : List Bool) : Prop := is.length = l.length ∧ ∀ i (h : i < l.length), mkd is i = true → Reach l names l[i]
def Starts (l : List Rl) (names : List ByteArray) (is : List Bool) (k : Nat) : Prop := ∀ j (h : j < names.length), j < k → ∀ i : Nat, placeI l names[j] = (i : Int) → mkd is i = true
/-- what role i holds is marked, up to the m-th -/
def Held (l : List Rl) (is : List Bool) (i m : Nat) : Prop := ∀ h : i < l.length, mkd is i = true → ∀ q (hq : q < l[i].holds.length), q < m → ∀ p : Nat, placeI l l[i].holds[q] = (p : Int) → mkd is p = true
def Shut (l : List Rl) (is : List Bool) : Prop := ∀ i, Held l is i (32 + 1)
theorem Shut.held {l : List Rl} {is : List Bool} (h : Shut l is) (hok : ∀ r ∈ l, r.holds.length ≤ 32) (i m : Nat) : Held l is i m := fun hi hm q hq _ p hp => h i hi hm q hq (by have := hok l[i] (List.getElem_mem hi); omega) p hp

theorem reach_marks {l : List Rl} {names : List ByteArray} {is : List Bool} (hs : Sound l names is) (h1 : Starts l names is names.length) (h2 : Shut l is) (hok : ∀ r ∈ l, r.holds.length ≤ 32) (hnd : (l.map Rl.name).Nodup) {i : Nat} (hi : i < l.length) : mkd is i = true ↔ Reach l names l[i] := by
  refine ⟨hs.2 i hi, fun hr => ?_⟩
  have key : ∀ r, Reach l names r → ∀ i (hi : i < l.length), l[i] = r → mkd is i = true := by
    intro r hr
    induction hr with
    | start hn hf =>
      intro i hi he
      obtain ⟨j, hj, rfl⟩ := List.mem_iff_getElem.1 hn
      refine h1 j hj hj i ?_
      obtain ⟨e1, -⟩ := findR_name hf
      rw [← e1, ← he]
      exact place_nodup hnd hi
    | more hr hn hf ih =>
      intro i hi he
      rename_i r0 n r1
      have hm0 : r0 ∈ l := by
        cases hr with
        | start _ h => exact (findR_name h).2
        | more _ _ h => exact (findR_name h).2
      obtain ⟨i0, hi0, he0⟩ := List.mem_iff_getElem.1 hm0
      have h3 := ih i0 hi0 he0
      rw [← he0] at hn
      obtain ⟨q, hq, hqe⟩ := List.mem_iff_getElem.1 hn
      refine h2.held hok i0 (q + 1) hi0 h3 q hq (by omega) i ?_
      obtain ⟨e1, -⟩ := findR_name hf
      rw [hqe, ← e1, ← he]
      exact place_nodup hnd hi
  exact key _ hr i hi rfl

theorem place_found {l : List Rl} {n : ByteArray} {p : Nat} (h : placeI l n = (p : Int)) : ∃ hp : p < l.length, findR l n = some l[p] := by
  rcases placeI_cases l n with ⟨h1, -⟩ | ⟨k, hk, h1, h2, -⟩
  · rw [h1] at h; omega
  · have : k = p := by rw [h1] at h; omega
    subst this; exact ⟨hk, h2⟩
theorem Sound.start {l : List Rl} {names : List ByteArray} {is : List Bool} (h : Sound l names is) {n : ByteArray} (hn : n ∈ names) {p : Nat} (hp : placeI l n = (p : Int)) : Sound l names (is.set p true) := by
  obtain ⟨hl, hf⟩ := place_found hp
  refine ⟨by simpa using h.1, fun i hi hm => ?_⟩
  rw [mkd_set (by rw [h.1]; exact hl)] at hm
  rcases Bool.or_eq_true_iff.1 hm with hm | hm
  · exact h.2 i hi hm
  · have : i = p := by simpa using hm
    subst this; exact .start hn hf
theorem Sound.more {l : List Rl} {names : List ByteArray} {is : List Bool} (h : Sound l names is) {j : Nat} (hj : j < l.length) (hm0 : mkd is j = true) {n : ByteArray} (hn : n ∈ l[j].holds) {p : Nat} (hp : placeI l n = (p : Int)) : Sound l names (is.set p true) := by
  obtain ⟨hl, hf⟩ := place_found hp
  refine ⟨by simpa using h.1, fun i hi hm => ?_⟩
  rw [mkd_set (by rw [h.1]; exact hl)] at hm
  rcases Bool.or_eq_true_iff.1 hm with hm | hm
  · exact h.2 i hi hm
  · have : i = p := by simpa using hm
    subst this; exact .more (h.2 j hj hm0) hn hf
theorem below_set {is : List Bool} (p : Nat) : below is (is.set p true) := by
  refine ⟨by simp, fun i hi => ?_⟩
  by_cases hp : p < is.length
  · rw [mkd_set hp, hi]; rfl
  · rw [List.set_eq_of_length_le (by omega)]; exact hi
theorem below_trans {a b c : List Bool} (h : below a b) (k : below b c) : below a c := ⟨h.1.trans k.1, fun i hi => k.2 i (h.2 i hi)⟩
theorem below_antisymm {a b : List Bool} (h : below a b) (k : below b a) : a = b := by
  apply List.ext_getElem h.1
  intro i h1 h2
  have e1 : mkd a i = a[i] := by simp [mkd, List.getD_eq_getElem?_getD, h1]
  have e2 : mkd b i = b[i] := by simp [mkd, List.getD_eq_getElem?_getD, h2]
  have f1 := h.2 i
  have f2 := k.2 i
  rw [e1, e2] at f1 f2
  cases ha : a[i] <;> cases hb : b[i] <;> simp_all

/-- within a round of marking -/
structure Mid (l : List Rl) (names : List ByteArray) (is0 is : List Bool) (i m : Nat) : Prop where
  bel : below is0 is
  sound : Sound l names is
  start : Starts l names is names.length
  here : is = is0 → Held l is i m
  done : is = is0 → ∀ j, j < i → Held l is j 33
  shut : Shut l is0 → is = is0

theorem Starts.mono {l : List Rl} {names : List ByteArray} {a b : List Bool} {k : Nat} (h : Starts l names a k) (hb : below a b) : Starts l names b k := fun j hj hjk i hi => hb.2 i (h j hj hjk i hi)
theorem Mid.begin {l : List Rl} {names : List ByteArray} {is0 : List Bool} (h1 : Sound l names is0) (h2 : Starts l names is0 names.length) : Mid l names is0 is0 0 0 :=
  ⟨⟨rfl, fun _ h => h⟩, h1, h2, fun _ _ _ q _ hq => by omega, fun _ j hj => by omega, fun _ => rfl⟩
theorem Mid.step {l : List Rl} {names : List ByteArray} {is0 is : List Bool} {i m : Nat} (h : Mid l names is0 is i m) (hok : ∀ r ∈ l, r.holds.length ≤ 32) (hi : i < l.length) (hm : mkd is i = true) (hq : m < l[i].holds.length) {p : Nat} (hp : placeI l l[i].holds[m] = (p : Int)) :
    Mid l names is0 (is.set p true) i (m + 1) := by
  obtain ⟨hl, -⟩ := place_found hp
  have hpl : p < is.length := by rw [h.sound.1]; exact hl
  have back : is.set p true = is0 → is = is0 ∧ is.set p true = is := by
    intro e
    have e2 : is = is0 := below_antisymm (by rw [← e]; exact below_set p) h.bel
    exact ⟨e2, by rw [e, e2]⟩
  refine ⟨below_trans h.bel (below_set p), h.sound.more hi hm (List.getElem_mem hq) hp, h.start.mono (below_set p), fun e => ?_, fun e => ?_, fun hs => ?_⟩
  · obtain ⟨e1, e2⟩ := back e
    rw [e2]
    intro h1 h2 q hq2 hqm p2 hp2
    by_cases hqe : q = m
    · subst hqe
      have : p2 = p := by rw [hp] at hp2; omega
      subst this
      rw [← e2, mkd_set hpl]; simp
    · exact h.here e1 h1 h2 q hq2 (by omega) p2 hp2
  · obtain ⟨e1, e2⟩ := back e
    rw [e2]; exact h.done e1
  · have e1 := h.shut hs
    have : mkd is p = true := by
      rw [e1] at hm ⊢
      exact hs.held hok i (m + 1) hi hm m hq (by omega) p hp
    rw [set_same hpl this]; exact e1
theorem Mid.next {l : List Rl} {names : List ByteArray} {is0 is : List Bool} {i m : Nat} (h : Mid l names is0 is i m) (hend : mkd is i = true → ∀ hi : i < l.length, l[i].holds.length ≤ m) : Mid l names is0 is (i + 1) 0 := by
  refine ⟨h.bel, h.sound, h.start, fun _ _ _ q _ hq => by omega, fun e j hj => ?_, h.shut⟩
  by_cases hji : j = i
  · subst hji
    intro h1 h2 q hq _ p hp
    exact h.here e h1 h2 q hq (by have := hend h2 h1; omega) p hp
  · exact h.done e j (by omega)
theorem Mid.finish {l : List Rl} {names : List ByteArray} {is0 is : List Bool} {i m r : Nat} (h : Mid l names is0 is i m) (hi : l.length ≤ i) (hr : Shut l is0 ∨ r ≤ is0.count true) : Shut l is ∨ r + 1 ≤ is.count true := by
  by_cases e : is = is0
  · exact .inl fun j => by
      by_cases hj : j < l.length
      · exact h.done e j (by omega)
      · intro h1; exact absurd h1 hj
  · rcases hr with hr | hr
    · exact absurd (h.shut hr) e
    · have := count_lt h.bel (fun e2 => e e2.symm)
      exact .inr (by omega)
theorem shut_end {l : List Rl} {names : List ByteArray} {is : List Bool} (h : Sound l names is) (hr : Shut l is ∨ l.length ≤ is.count true) : Shut l is := by
  rcases hr with hr | hr
  · exact hr
  · intro i hi _ q _ _ p hp
    obtain ⟨hl, -⟩ := place_found hp
    exact all_of_count (by rw [h.1]; exact hr) p (by rw [h.1]; exact hl)
end Go.Proofs.YtkiepajhakoeiaaDoor
