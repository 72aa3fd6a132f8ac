/- What is written of a guard is read as it: the induction; plain. -/
import Derived.Test.YtkmgbkcpjlilpaaDoorGBack
namespace Go.Proofs.YtkmgbkcpjlilpaaDoor
open Go.RowKit

/-- what may stand behind a kid -/
def Behind (r : List UInt8) : Prop := (r = [] ∨ ∃ c t, r = c :: t ∧ (c = 32 ∨ c = 41)) ∧ Good (bl r)
theorem Behind.stop {r : List UInt8} (h : Behind r) : Stop r := by
  rcases h.1 with h1 | ⟨c, t, h1, hc⟩
  · exact .inl h1
  · exact .inr ⟨c, t, h1, by rcases hc with hc | hc; exact .inl hc; exact .inr (.inr hc)⟩
theorem now_list {st : GSt} {l : List UInt8} (h : st.now = ⟨l.toArray⟩) : st.now.data.toList = l := by rw [h]
theorem now_ne {x y : ByteArray} {c : UInt8} (h : x.data.toList.headD 0 = c) (hne : y.data.toList.headD 0 ≠ c) : ¬ x = y := fun he => hne (by rw [← he, h])
theorem tok_size_pos {x : ByteArray} {c : UInt8} {l : List UInt8} (h : x.data.toList = c :: l) : 0 < x.size := by rw [← ba_len, h]; simp
/-- a leaf is an atom -/
theorem leaf_atom {s : ByteArray} {st : GSt} {k : Nat} {n : Int} {x : ByteArray} {r : List UInt8} (hm : (GT.leaf k n x).may) (h : AtL s st (leafT k n x ++ r)) (hr : Behind r) : ∃ st', Ev s .atom st (.leaf k n x, st') ∧ AtL s st' (bl r) := by
  rcases hm with ⟨hk, rfl, rfl⟩ | ⟨rfl, h0, h1, rfl⟩ | ⟨rfl, rfl, hq⟩ | ⟨hk, rfl, hn⟩
  · rcases hk with rfl | rfl
    · have tk : Tk [116, 114, 117, 101] r := tk_word (c := 116) (x := [114, 117, 101]) (by decide) (by decide) (by decide) hr.stop
      obtain ⟨st', hs, ha⟩ := AtL.next h tk hr.2
      exact ⟨st', ⟨1, by rw [at1 (AtL.now_eq h tk), hs]; rfl⟩, ha⟩
    · have tk : Tk [102, 97, 108, 115, 101] r := tk_word (c := 102) (x := [97, 108, 115, 101]) (by decide) (by decide) (by decide) hr.stop
      obtain ⟨st', hs, ha⟩ := AtL.next h tk hr.2
      exact ⟨st', ⟨1, by rw [at2 (by rw [AtL.now_eq h tk]; decide) (AtL.now_eq h tk), hs]; rfl⟩, ha⟩
  · obtain ⟨u, rfl⟩ : ∃ u : Nat, n = u := ⟨n.toNat, by omega⟩
    have h : AtL s st (Lib.decDigits u ++ r) := h
    have hdig := dec_dig u
    obtain ⟨c, l, hcl⟩ : ∃ c l, Lib.decDigits u = c :: l := by
      cases hd : Lib.decDigits u with
      | nil => exact absurd hd (dec_ne u)
      | cons c l => exact ⟨c, l, rfl⟩
    have hsp := spell_dec u
    rw [hcl] at h hdig hsp
    have hc : 48 ≤ c.toNat ∧ c.toNat ≤ 57 := hdig c (by simp)
    have hall : l.all digitB = true := List.all_eq_true.2 fun a ha => by
      have := hdig a (by simp [ha])
      simpa [digitB, isDig] using this
    have tk : Tk (c :: l) r := by
      by_cases hu : u = 0
      · subst hu
        rw [Lib.decDigits_one (by decide)] at hcl
        injection hcl with e1 e2
        subst e1; subst e2
        exact tk_sign (by decide) r
      · have hh := dec_head u (by omega)
        rw [hcl] at hh
        have h48 : c.toNat ≠ 48 := fun he => hh (by rw [UInt8.toNat_inj.1 (show c.toNat = (48 : UInt8).toNat from he)]; rfl)
        exact tk_digits (by omega) hall (by rw [hsp]; omega) hr.stop
    obtain ⟨st', hs, ha⟩ := AtL.next h tk hr.2
    have hnow := now_list (AtL.now_eq h tk)
    have hhd : st.now.data.toList.headD 0 = c := by rw [hnow]; rfl
    have hcn : ∀ y : UInt8, digitB y = false → y ≠ c := fun y hy he => by
      subst he
      have : digitB y = true := by simpa [digitB] using hc
      rw [this] at hy; cases hy
    refine ⟨st', ⟨1, ?_⟩, ha⟩
    rw [at5 (now_ne hhd (hcn _ (by decide))) (now_ne hhd (hcn _ (by decide))) (by rintro (h | h); exact now_ne hhd (hcn _ (by decide)) h; exact now_ne hhd (hcn _ (by decide)) h) (now_ne hhd (hcn _ (by decide))) ⟨tok_size_pos hnow, by rw [hhd]; simpa [digitB] using hc⟩, hs, hnow, hsp]
    rfl
  · have tk : Tk (39 :: (x.data.toList ++ [39])) r := tk_quote hq
    obtain ⟨st', hs, ha⟩ := AtL.next h tk hr.2
    have hnow : st.now.data.toList = 39 :: (x.data.toList ++ [39]) := now_list (AtL.now_eq h tk)
    have hhd : st.now.data.toList.headD 0 = 39 := by rw [hnow]; rfl
    have hsz : st.now.size = x.size + 2 := by
      have h1 := congrArg List.length hnow
      rw [ba_len, List.length_cons, List.length_append, ba_len] at h1
      exact h1
    have hex : st.now.extract 1 (st.now.size - 1) = x := by
      refine ByteArray.ext (Array.ext' ?_)
      simp only [ByteArray.data_extract, Array.toList_extract]
      show (st.now.data.toList.drop 1).take (st.now.size - 1 - 1) = x.data.toList
      rw [hnow, hsz]
      show (x.data.toList ++ [39]).take (x.size + 2 - 1 - 1) = _
      rw [show x.size + 2 - 1 - 1 = x.data.toList.length by rw [ba_len]; omega, List.take_left]
    refine ⟨st', ⟨1, ?_⟩, ha⟩
    rw [at6 (now_ne hhd (by decide)) (now_ne hhd (by decide)) (by rintro (h | h); exact now_ne hhd (by decide) h; exact now_ne hhd (by decide) h) (now_ne hhd (by decide)) (fun h => absurd h.2 (by rw [hhd]; decide)) ⟨tok_size_pos hnow, hhd⟩, hs, hex]
    rfl
  · have hn2 := hn
    unfold namedG at hn2
    simp only [Bool.and_eq_true, decide_eq_true_eq, Bool.not_eq_true'] at hn2
    obtain ⟨⟨⟨⟨hn1, hn2⟩, hn3⟩, hn4⟩, hn5⟩ := hn2
    obtain ⟨c, l, hcl⟩ : ∃ c l, x.data.toList = c :: l := by
      cases hd : x.data.toList with
      | nil => rw [← ba_len, hd] at hn1; simp at hn1
      | cons c l => exact ⟨c, l, rfl⟩
    have hc : 97 ≤ c.toNat ∧ c.toNat ≤ 122 := by rw [hcl] at hn3; exact hn3
    have hl : l.all letterB = true := by rw [hcl, List.all_cons, Bool.and_eq_true] at hn5; exact hn5.2
    have hlen : l.length < 32 := by rw [← ba_len, hcl, List.length_cons] at hn2; omega
    have tkx : ∀ r, Stop r → Tk x.data.toList r := fun r hr => by rw [hcl]; exact tk_word hc hl hlen hr
    have hnt : ¬ (x = trueS) ∧ ¬ (x = falseS) ∧ ¬ (x = openS ∨ x = doneS) := by
      have : ¬ (x = andS ∨ x = orS ∨ x = notS ∨ x = trueS ∨ x = falseS ∨ x = openS ∨ x = doneS) := by simpa [takenB] using hn4
      refine ⟨fun h => this (by simp [h]), fun h => this (by simp [h]), fun h => this ?_⟩
      rcases h with h | h <;> simp [h]
    have hxc : x.data.toList.headD 0 = c := by rw [hcl]; rfl
    rcases hk with rfl | rfl | rfl
    · have h : AtL s st (x.data.toList ++ r) := h
      have tk := tkx r hr.stop
      obtain ⟨st', hs, ha⟩ := AtL.next h tk hr.2
      have hnow : st.now = x := (AtL.now_eq h tk)
      have hcn : ∀ y : UInt8, ¬ (97 ≤ y.toNat ∧ y.toNat ≤ 122) → y ≠ c := fun y hy he => hy (he ▸ hc)
      refine ⟨st', ⟨1, ?_⟩, ha⟩
      rw [at7 (by rw [hnow]; exact hnt.1) (by rw [hnow]; exact hnt.2.1) (by rw [hnow]; exact hnt.2.2) (by rw [hnow]; exact now_ne hxc (hcn _ (by decide))) (fun h => by
        have h2 := h.2
        rw [hnow, hxc] at h2
        simp only [digitB, decide_eq_true_eq] at h2
        omega) (fun h => by
        have h2 := h.2
        rw [hnow, hxc] at h2
        subst h2
        exact absurd hc.1 (by decide)), hnow, if_pos hn, hs]
      rfl
    · have h : AtL s st ([111, 112, 101, 110] ++ ([40] ++ (x.data.toList ++ ([41] ++ r)))) := by
        have : leafT 6 0 x ++ r = [111, 112, 101, 110] ++ ([40] ++ (x.data.toList ++ ([41] ++ r))) := by simp [leafT]
        rw [← this]; exact h
      have sx : Stop ([41] ++ r) := .inr ⟨41, r, rfl, .inr (.inr rfl)⟩
      have k1 : Tk [111, 112, 101, 110] ([40] ++ (x.data.toList ++ ([41] ++ r))) := tk_word (c := 111) (x := [112, 101, 110]) (by decide) (by decide) (by decide) (.inr ⟨40, _, rfl, .inr (.inl rfl)⟩)
      have k2 : Tk [40] (x.data.toList ++ ([41] ++ r)) := tk_sign (by decide) _
      have k3 := tkx ([41] ++ r) sx
      have k4 : Tk [41] r := tk_sign (by decide) _
      have b2 : bl ([40] ++ (x.data.toList ++ ([41] ++ r))) = [40] ++ (x.data.toList ++ ([41] ++ r)) := bl_cons (by decide) _
      have b3 : bl (x.data.toList ++ ([41] ++ r)) = x.data.toList ++ ([41] ++ r) := by rw [hcl]; exact bl_cons (by rintro rfl; exact absurd hc.1 (by decide)) _
      have b4 : bl ([41] ++ r) = [41] ++ r := bl_cons (by decide) _
      obtain ⟨s1, e1, a1⟩ := AtL.next h k1 (by rw [b2]; exact good_tk k2)
      rw [b2] at a1
      obtain ⟨s2, e2, a2⟩ := AtL.next a1 k2 (by rw [b3]; exact good_tk k3)
      rw [b3] at a2
      obtain ⟨s3, e3, a3⟩ := AtL.next a2 k3 (by rw [b4]; exact good_tk k4)
      rw [b4] at a3
      obtain ⟨s4, e4, a4⟩ := AtL.next a3 k4 hr.2
      have n0 : st.now = openS := AtL.now_eq h k1
      have n1 : s1.now = lparS := AtL.now_eq a1 k2
      have n2 : s2.now = x := AtL.now_eq a2 k3
      have n3 : s3.now = rparS := AtL.now_eq a3 k4
      refine ⟨s4, ⟨1, ?_⟩, a4⟩
      rw [at3 (by rw [n0]; decide) (by rw [n0]; decide) (.inl n0), e1]
      simp only [thenS, needB]
      rw [if_pos n1, e2]
      simp only
      rw [n2, if_pos hn, e3]
      simp only
      rw [if_pos n3, e4]
      simp only
      rw [if_neg (by rw [n0]; decide)]
    · have h : AtL s st ([100, 111, 110, 101] ++ ([40] ++ (x.data.toList ++ ([41] ++ r)))) := by
        have : leafT 7 0 x ++ r = [100, 111, 110, 101] ++ ([40] ++ (x.data.toList ++ ([41] ++ r))) := by simp [leafT]
        rw [← this]; exact h
      have sx : Stop ([41] ++ r) := .inr ⟨41, r, rfl, .inr (.inr rfl)⟩
      have k1 : Tk [100, 111, 110, 101] ([40] ++ (x.data.toList ++ ([41] ++ r))) := tk_word (c := 100) (x := [111, 110, 101]) (by decide) (by decide) (by decide) (.inr ⟨40, _, rfl, .inr (.inl rfl)⟩)
      have k2 : Tk [40] (x.data.toList ++ ([41] ++ r)) := tk_sign (by decide) _
      have k3 := tkx ([41] ++ r) sx
      have k4 : Tk [41] r := tk_sign (by decide) _
      have b2 : bl ([40] ++ (x.data.toList ++ ([41] ++ r))) = [40] ++ (x.data.toList ++ ([41] ++ r)) := bl_cons (by decide) _
      have b3 : bl (x.data.toList ++ ([41] ++ r)) = x.data.toList ++ ([41] ++ r) := by rw [hcl]; exact bl_cons (by rintro rfl; exact absurd hc.1 (by decide)) _
      have b4 : bl ([41] ++ r) = [41] ++ r := bl_cons (by decide) _
      obtain ⟨s1, e1, a1⟩ := AtL.next h k1 (by rw [b2]; exact good_tk k2)
      rw [b2] at a1
      obtain ⟨s2, e2, a2⟩ := AtL.next a1 k2 (by rw [b3]; exact good_tk k3)
      rw [b3] at a2
      obtain ⟨s3, e3, a3⟩ := AtL.next a2 k3 (by rw [b4]; exact good_tk k4)
      rw [b4] at a3
      obtain ⟨s4, e4, a4⟩ := AtL.next a3 k4 hr.2
      have n0 : st.now = doneS := AtL.now_eq h k1
      have n1 : s1.now = lparS := AtL.now_eq a1 k2
      have n2 : s2.now = x := AtL.now_eq a2 k3
      have n3 : s3.now = rparS := AtL.now_eq a3 k4
      refine ⟨s4, ⟨1, ?_⟩, a4⟩
      rw [at3 (by rw [n0]; decide) (by rw [n0]; decide) (.inr n0), e1]
      simp only [thenS, needB]
      rw [if_pos n1, e2]
      simp only
      rw [n2, if_pos hn, e3]
      simp only
      rw [if_pos n3, e4]
      simp only
      rw [if_pos n0]
/-- a kid begins with a token -/
theorem kid_good : ∀ {t : GT}, t.may → ∀ r, Behind r → Good (t.kid ++ r) ∧ bl (t.kid ++ r) = t.kid ++ r
  | .leaf k n x, hm, r, hr => by
    show Good (leafT k n x ++ r) ∧ bl (leafT k n x ++ r) = leafT k n x ++ r
    rcases hm with ⟨hk, rfl, rfl⟩ | ⟨rfl, h0, h1, rfl⟩ | ⟨rfl, rfl, hq⟩ | ⟨hk, rfl, hn⟩
    · rcases hk with rfl | rfl
      · exact ⟨good_tk (tk_word (c := 116) (x := [114, 117, 101]) (by decide) (by decide) (by decide) hr.stop), bl_cons (by decide) _⟩
      · exact ⟨good_tk (tk_word (c := 102) (x := [97, 108, 115, 101]) (by decide) (by decide) (by decide) hr.stop), bl_cons (by decide) _⟩
    · have hdig := dec_dig n.toNat
      obtain ⟨c, l, hcl⟩ : ∃ c l, Lib.decDigits n.toNat = c :: l := by
        cases hd : Lib.decDigits n.toNat with
        | nil => exact absurd hd (dec_ne _)
        | cons c l => exact ⟨c, l, rfl⟩
      have hc : 48 ≤ c.toNat ∧ c.toNat ≤ 57 := hdig c (by rw [hcl]; simp)
      show Good (Lib.decDigits n.toNat ++ r) ∧ bl (Lib.decDigits n.toNat ++ r) = Lib.decDigits n.toNat ++ r
      have hsp := spell_dec n.toNat
      have hall : l.all digitB = true := List.all_eq_true.2 fun a ha => by
        have := hdig a (by rw [hcl]; simp [ha])
        simpa [digitB, isDig] using this
      rw [hcl] at hsp ⊢
      refine ⟨good_tk ?_, bl_cons (by rintro rfl; exact absurd hc.1 (by decide)) _⟩
      by_cases h48 : c = 48
      · by_cases hu : n.toNat = 0
        · rw [hu, Lib.decDigits_one (by decide)] at hcl
          injection hcl with e1 e2
          subst e1; subst e2
          exact tk_sign (by decide) r
        · exact absurd (by rw [hcl, h48]; rfl) (dec_head n.toNat (by omega))
      · exact tk_digits ⟨by have : c.toNat ≠ 48 := fun he => h48 (UInt8.toNat_inj.1 he); omega, hc.2⟩ hall (by rw [hsp]; omega) hr.stop
    · exact ⟨good_tk (tk_quote hq), bl_cons (by decide) _⟩
    · unfold namedG at hn
      simp only [Bool.and_eq_true, decide_eq_true_eq, Bool.not_eq_true'] at hn
      obtain ⟨⟨⟨⟨hn1, hn2⟩, hn3⟩, hn4⟩, hn5⟩ := hn
      rcases hk with rfl | rfl | rfl
      · obtain ⟨c, l, hcl⟩ : ∃ c l, x.data.toList = c :: l := by
          cases hd : x.data.toList with
          | nil => rw [← ba_len, hd] at hn1; simp at hn1
          | cons c l => exact ⟨c, l, rfl⟩
        have hc : 97 ≤ c.toNat ∧ c.toNat ≤ 122 := by rw [hcl] at hn3; exact hn3
        have hl : l.all letterB = true := by rw [hcl, List.all_cons, Bool.and_eq_true] at hn5; exact hn5.2
        have hlen : l.length < 32 := by rw [← ba_len, hcl, List.length_cons] at hn2; omega
        show Good (x.data.toList ++ r) ∧ bl (x.data.toList ++ r) = x.data.toList ++ r
        rw [hcl]
        exact ⟨good_tk (tk_word hc hl hlen hr.stop), bl_cons (by rintro rfl; exact absurd hc.1 (by decide)) _⟩
      · show Good (([111, 112, 101, 110, 40] ++ (x.data.toList ++ [41])) ++ r) ∧ _
        have : leafT 6 0 x ++ r = [111, 112, 101, 110] ++ (40 :: (x.data.toList ++ [41] ++ r)) := by simp [leafT]
        rw [show ([111, 112, 101, 110, 40] ++ (x.data.toList ++ [41])) ++ r = [111, 112, 101, 110] ++ (40 :: (x.data.toList ++ [41] ++ r)) from this, this]
        exact ⟨good_tk (tk_word (c := 111) (x := [112, 101, 110]) (by decide) (by decide) (by decide) (.inr ⟨40, _, rfl, .inr (.inl rfl)⟩)), bl_cons (by decide) _⟩
      · show Good (([100, 111, 110, 101, 40] ++ (x.data.toList ++ [41])) ++ r) ∧ _
        have : leafT 7 0 x ++ r = [100, 111, 110, 101] ++ (40 :: (x.data.toList ++ [41] ++ r)) := by simp [leafT]
        rw [show ([100, 111, 110, 101, 40] ++ (x.data.toList ++ [41])) ++ r = [100, 111, 110, 101] ++ (40 :: (x.data.toList ++ [41] ++ r)) from this, this]
        exact ⟨good_tk (tk_word (c := 100) (x := [111, 110, 101]) (by decide) (by decide) (by decide) (.inr ⟨40, _, rfl, .inr (.inl rfl)⟩)), bl_cons (by decide) _⟩
  | .one .., _, r, _ => ⟨good_tk (x := [40]) (tk_sign (by decide) _), bl_cons (by decide) _⟩
  | .two .., _, r, _ => ⟨good_tk (x := [40]) (tk_sign (by decide) _), bl_cons (by decide) _⟩
def EndL (r : List UInt8) : Prop := r = [] ∨ ∃ t, r = 41 :: t
theorem EndL.behind {r : List UInt8} (h : EndL r) : Behind r ∧ bl r = r := by
  rcases h with rfl | ⟨t, rfl⟩
  · exact ⟨⟨.inl rfl, .inl rfl⟩, rfl⟩
  · have hb : bl (41 :: t) = 41 :: t := bl_cons (by decide) _
    exact ⟨⟨.inr ⟨41, t, rfl, .inr rfl⟩, by rw [hb]; exact good_tk (x := [41]) (tk_sign (by decide) _)⟩, hb⟩
theorem EndL.ends {s : ByteArray} {st : GSt} {r : List UInt8} (h : EndL r) (ha : AtL s st r) : Ends st.now := by
  rcases h with rfl | ⟨t, rfl⟩
  · exact .inl ha.now_nil
  · exact .inr (AtL.now_eq (x := [41]) ha (tk_sign (by decide) _))
/-- the atom in brackets -/
theorem paren_atom {s : ByteArray} {st : GSt} {t : GT} {r : List UInt8} (h : AtL s st ([40] ++ (t.txt ++ ([41] ++ r)))) (hb : bl (t.txt ++ ([41] ++ r)) = t.txt ++ ([41] ++ r)) (hg : Good (t.txt ++ ([41] ++ r))) (hr : Behind r)
    (ih : ∀ (st : GSt) (r : List UInt8), AtL s st (t.txt ++ r) → EndL r → ∃ st', Ev s .guard st (t, st') ∧ AtL s st' r) : ∃ st', Ev s .atom st (t, st') ∧ AtL s st' (bl r) := by
  have k1 : Tk [40] (t.txt ++ ([41] ++ r)) := tk_sign (by decide) _
  have k2 : Tk [41] r := tk_sign (by decide) _
  obtain ⟨s1, e1, a1⟩ := AtL.next h k1 (by rw [hb]; exact hg)
  rw [hb] at a1
  obtain ⟨s2, ⟨f, e2⟩, a2⟩ := ih s1 ([41] ++ r) a1 (.inr ⟨r, rfl⟩)
  obtain ⟨s3, e3, a3⟩ := AtL.next a2 k2 hr.2
  have n0 : st.now = lparS := AtL.now_eq h k1
  have n2 : s2.now = rparS := AtL.now_eq a2 k2
  refine ⟨s3, ⟨f + 1, ?_⟩, a3⟩
  rw [at4 (by rw [n0]; decide) (by rw [n0]; decide) (by rw [n0]; decide) n0, e1]
  simp only [thenS, e2, thenP, needB]
  rw [if_pos n2, e3]
theorem text_back (s : ByteArray) : ∀ t : GT, t.may → (∀ (st : GSt) (r : List UInt8), AtL s st (t.kid ++ r) → Behind r → ∃ st', Ev s .atom st (t, st') ∧ AtL s st' (bl r)) ∧ (∀ (st : GSt) (r : List UInt8), AtL s st (t.txt ++ r) → EndL r → ∃ st', Ev s .guard st (t, st') ∧ AtL s st' r)
  | .leaf k n x, hm => by
    have ha : ∀ (st : GSt) (r : List UInt8), AtL s st (leafT k n x ++ r) → Behind r → ∃ st', Ev s .atom st (.leaf k n x, st') ∧ AtL s st' (bl r) := fun st r h hr => leaf_atom hm h hr
    refine ⟨ha, fun st r h hr => ?_⟩
    obtain ⟨hb, he⟩ := hr.behind
    obtain ⟨st', e1, a1⟩ := ha st r h hb
    rw [he] at a1
    exact ⟨st', (alone e1 (ends_none (hr.ends a1))).2.2, a1⟩
  | .one k a, hm => by
    obtain ⟨rfl, hma⟩ := hm
    have iha := text_back s a hma
    have key : ∀ (st : GSt) (r : List UInt8), AtL s st ((GT.one 8 a).txt ++ r) → EndL r → ∃ st', Ev s .guard st (.one 8 a, st') ∧ AtL s st' r := fun st r h hr => by
      obtain ⟨hb, he⟩ := hr.behind
      have h : AtL s st ([110, 111, 116] ++ (32 :: (a.kid ++ r))) := by
        have : (GT.one 8 a).txt ++ r = [110, 111, 116] ++ (32 :: (a.kid ++ r)) := by simp [GT.txt]
        rw [← this]; exact h
      have k1 : Tk [110, 111, 116] (32 :: (a.kid ++ r)) := tk_word (c := 110) (x := [111, 116]) (by decide) (by decide) (by decide) (.inr ⟨32, _, rfl, .inl rfl⟩)
      obtain ⟨hg, hbk⟩ := kid_good hma r hb
      obtain ⟨s1, e1, a1⟩ := AtL.next h k1 (by rw [bl_space, hbk]; exact hg)
      rw [bl_space, hbk] at a1
      obtain ⟨s2, e2, a2⟩ := iha.1 s1 r a1 hb
      rw [he] at a2
      obtain ⟨z1, z2, z3, z4, z5⟩ := ends_none (hr.ends a2)
      have e3 := ev_not (AtL.now_eq h k1) e1 (alone e2 ⟨z1, z2, z3, z4, z5⟩).1
      exact ⟨s2, ev_up (nt := .guard) (by simp) (ev_up (nt := .side) (by simp) e3 z2) z1, a2⟩
    refine ⟨fun st r h hr => ?_, key⟩
    have h : AtL s st ([40] ++ ((GT.one 8 a).txt ++ ([41] ++ r))) := by
      have : (GT.one 8 a).kid ++ r = [40] ++ ((GT.one 8 a).txt ++ ([41] ++ r)) := by simp [GT.kid, GT.isLeaf, wrapT]
      rw [← this]; exact h
    refine paren_atom h ?_ ?_ hr key
    · exact bl_cons (by decide) _
    · have : (GT.one 8 a).txt ++ ([41] ++ r) = [110, 111, 116] ++ (32 :: (a.kid ++ ([41] ++ r))) := by simp [GT.txt]
      rw [this]
      exact good_tk (tk_word (c := 110) (x := [111, 116]) (by decide) (by decide) (by decide) (.inr ⟨32, _, rfl, .inl rfl⟩))
  | .two k a b, hm => by
    obtain ⟨hk, hma, hmb⟩ := hm
    have iha := text_back s a hma
    have ihb := text_back s b hmb
    have split : ∀ r, (GT.two k a b).txt ++ r = a.kid ++ (32 :: (opT k ++ (32 :: (b.kid ++ r)))) := fun r => by simp [GT.txt]
    have behA : ∀ r, Behind (32 :: (opT k ++ (32 :: (b.kid ++ r)))) := fun r => by
      obtain ⟨kt, kb⟩ := op_tk hk (b.kid ++ r)
      exact ⟨.inr ⟨32, _, rfl, .inl rfl⟩, by rw [bl_space, kb]; exact good_tk kt⟩
    have key : ∀ (st : GSt) (r : List UInt8), AtL s st ((GT.two k a b).txt ++ r) → EndL r → ∃ st', Ev s .guard st (.two k a b, st') ∧ AtL s st' r := fun st r h hr => by
      obtain ⟨hb, he⟩ := hr.behind
      rw [split] at h
      obtain ⟨kt, kb⟩ := op_tk hk (b.kid ++ r)
      obtain ⟨s1, e1, a1⟩ := iha.1 st _ h (behA r)
      rw [bl_space, kb] at a1
      obtain ⟨hg, hbk⟩ := kid_good hmb r hb
      obtain ⟨s2, e2, a2⟩ := AtL.next a1 kt (by rw [bl_space, hbk]; exact hg)
      rw [bl_space, hbk] at a2
      obtain ⟨s3, e3, a3⟩ := ihb.1 s2 r a2 hb
      rw [he] at a3
      exact ⟨s3, between hk e1 (AtL.now_eq a1 kt) e2 e3 (hr.ends a3), a3⟩
    refine ⟨fun st r h hr => ?_, key⟩
    have h : AtL s st ([40] ++ ((GT.two k a b).txt ++ ([41] ++ r))) := by
      have : (GT.two k a b).kid ++ r = [40] ++ ((GT.two k a b).txt ++ ([41] ++ r)) := by simp [GT.kid, GT.isLeaf, wrapT]
      rw [← this]; exact h
    obtain ⟨hg, hb⟩ := kid_good hma _ (behA ([41] ++ r))
    refine paren_atom h ?_ ?_ hr key
    · rw [split]; exact hb
    · rw [split]; exact hg
/-- THE THEOREM: what is written is read back -/
theorem read_back {t : GT} (hm : t.may) (hd : t.deep ≤ 32) : ∃ f, readG ⟨t.txt.toArray⟩ f = some (.ok t) := by
  have htl : (⟨t.txt.toArray⟩ : ByteArray).data.toList = t.txt := rfl
  have hgb : Good (bl t.txt) ∧ bl t.txt = t.txt := by
    cases t with
    | leaf k n x =>
      have h := kid_good hm [] ⟨.inl rfl, .inl rfl⟩
      rw [List.append_nil] at h
      exact ⟨by show Good (bl (GT.leaf k n x).kid); rw [h.2]; exact h.1, h.2⟩
    | one k a =>
      have hb : bl (GT.one k a).txt = (GT.one k a).txt := bl_cons (by decide) _
      refine ⟨?_, hb⟩
      rw [hb]
      have : (GT.one k a).txt = [110, 111, 116] ++ (32 :: a.kid) := by simp [GT.txt]
      rw [this]
      exact good_tk (tk_word (c := 110) (x := [111, 116]) (by decide) (by decide) (by decide) (.inr ⟨32, _, rfl, .inl rfl⟩))
    | two k a b =>
      have hk := hm.1
      have h := kid_good hm.2.1 (32 :: (opT k ++ (32 :: b.kid))) (by
        obtain ⟨kt, kb⟩ := op_tk hk b.kid
        exact ⟨.inr ⟨32, _, rfl, .inl rfl⟩, by rw [bl_space, kb]; exact good_tk kt⟩)
      have : (GT.two k a b).txt = a.kid ++ (32 :: (opT k ++ (32 :: b.kid))) := by simp [GT.txt]
      rw [this]
      exact ⟨by rw [h.2]; exact h.1, h.2⟩
  obtain ⟨st, e1, a1⟩ := step_at (s := ⟨t.txt.toArray⟩) (i := 0) (Nat.zero_le _) (by rw [List.drop_zero, htl]; exact hgb.1)
  rw [List.drop_zero, htl, hgb.2] at a1
  obtain ⟨st', ⟨f, e2⟩, a2⟩ := (text_back ⟨t.txt.toArray⟩ t hm).2 st [] (by rw [List.append_nil]; exact a1) (.inl rfl)
  refine ⟨f, ?_⟩
  rw [readG, e1]
  simp only
  rw [e2]
  simp only
  rw [if_neg (by rw [a2.now_nil]; decide), if_neg (by omega)]
end Go.Proofs.YtkmgbkcpjlilpaaDoor
