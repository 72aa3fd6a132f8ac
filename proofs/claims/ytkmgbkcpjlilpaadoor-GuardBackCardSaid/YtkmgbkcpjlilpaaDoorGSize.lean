/- What is read as a guard may be, and is not much longer written; plain. -/
import Derived.Test.YtkmgbkcpjlilpaaDoorGText
import Derived.Test.YtkmgbkcpjlilpaaDoorGData
import Derived.Test.YtkmgbkcpjlilpaaDoorGDig
namespace Go.Proofs.YtkmgbkcpjlilpaaDoor
open Go.RowKit

structure GSz (s : ByteArray) (st : GSt) : Prop where
  le : st.i ≤ s.size
  eq : st.i = st.pos + st.now.size
  tok : TokOk st.now
theorem step_gz {s : ByteArray} {i : Nat} {st : GSt} (hi : i ≤ s.size) (h : stepB s i = .ok st) : GSz s st ∧ i ≤ st.pos := by
  obtain ⟨hg, hp⟩ := step_gs hi h
  refine ⟨⟨hg.le, ?_, hg.tok⟩, hp⟩
  obtain ⟨_, _, h3, _, h5⟩ := stepB_ok hi h
  rcases h5 with h5 | h5
  · unfold stepB at h
    split at h
    · injection h with h; subst h; rfl
    · split at h
      · cases h
      · rename_i h0 h1
        injection h with h; subst h
        simp only [ByteArray.size_extract] at h5
        have h3 := longB_le (s.data.toList.drop (fromB s i))
        rw [List.length_drop, ba_len] at h3
        omega
  · omega
theorem step_err {s : ByteArray} {i a : Nat} (hi : i ≤ s.size) (h : stepB s i = .error a) : a ≤ s.size := by
  have := fromB_le s hi
  unfold stepB at h
  split at h
  · cases h
  · split at h
    · injection h with h; omega
    · cases h
/-- what a part of the grammar comes to -/
def MR (s : ByteArray) (p0 : Nat) : Except Nat (GT × GSt) → Prop
  | .ok (g, st1) => GSz s st1 ∧ g.may ∧ g.kid.length + 5 * p0 ≤ 5 * st1.pos ∧ g.toGD.size + 3 * p0 ≤ 3 * st1.pos
  | .error a => a ≤ s.size
def MP (s : ByteArray) (p : GSt → PR) : Prop := ∀ st x, GSz s st → p st = some x → MR s st.pos x
def KindsOk (kinds : ByteArray → Option Nat) : Prop := ∀ x k, kinds x = some k → (9 ≤ k ∧ k ≤ 15) ∧ x.data.toList = opT k
theorem opT_pos (k : Nat) : 1 ≤ (opT k).length := by unfold opT; split <;> simp
theorem kinds_ok : KindsOk kOr ∧ KindsOk kAnd ∧ KindsOk kRel ∧ KindsOk kSum ∧ KindsOk kMul := by
  refine ⟨fun x k h => ?_, fun x k h => ?_, fun x k h => ?_, fun x k h => ?_, fun x k h => ?_⟩
  · unfold kOr at h; split at h
    · rename_i hx; subst hx; injection h with h; subst h; exact ⟨by omega, rfl⟩
    · cases h
  · unfold kAnd at h; split at h
    · rename_i hx; subst hx; injection h with h; subst h; exact ⟨by omega, rfl⟩
    · cases h
  · unfold kRel at h; split at h
    · rename_i hx; subst hx; injection h with h; subst h; exact ⟨by omega, rfl⟩
    · split at h
      · rename_i hx; subst hx; injection h with h; subst h; exact ⟨by omega, rfl⟩
      · cases h
  · unfold kSum at h; split at h
    · rename_i hx; subst hx; injection h with h; subst h; exact ⟨by omega, rfl⟩
    · split at h
      · rename_i hx; subst hx; injection h with h; subst h; exact ⟨by omega, rfl⟩
      · cases h
  · unfold kMul at h; split at h
    · rename_i hx; subst hx; injection h with h; subst h; exact ⟨by omega, rfl⟩
    · cases h
theorem two_kid (k : Nat) (g h : GT) : (GT.two k g h).kid.length = g.kid.length + h.kid.length + (opT k).length + 4 := by
  show (wrapT false _).length = _
  simp [wrapT, GT.txt]
  omega
theorem one_kid (k : Nat) (g : GT) : (GT.one k g).kid.length = g.kid.length + 6 := by
  show (wrapT false _).length = _
  simp [wrapT, GT.txt]
theorem join_mr {s : ByteArray} {p0 k : Nat} {g h : GT} {st st1 st2 : GSt} (hk : 9 ≤ k ∧ k ≤ 15) (hn : st.now.data.toList = opT k) (hz : GSz s st) (hg : g.may) (h1 : g.kid.length + 5 * p0 ≤ 5 * st.pos) (h2 : g.toGD.size + 3 * p0 ≤ 3 * st.pos) (hs : st.i ≤ st1.pos) (hm : MR s st1.pos (.ok (h, st2))) : MR s p0 (.ok (.two k g h, st2)) := by
  obtain ⟨q1, q2, q3, q4⟩ := hm
  have hl : st.now.size = (opT k).length := by rw [← ba_len, hn]
  have ho := opT_pos k
  have he := hz.eq
  refine ⟨q1, ⟨hk, hg, q2⟩, ?_, ?_⟩
  · rw [two_kid]; omega
  · simp only [GT.toGD, GD.size, GD.sizes]
    show 1 + 0 + _ + _ ≤ _
    omega
theorem rowL_mr {s : ByteArray} {one : GSt → PR} (hone : MP s one) {kinds : ByteArray → Option Nat} (hk : KindsOk kinds) (p0 : Nat) : ∀ (f : Nat) (g : GT) (st : GSt) (x : Except Nat (GT × GSt)), MR s p0 (.ok (g, st)) → rowL s one kinds f g st = some x → MR s p0 x
  | 0, _, _, _, _, h => by cases h
  | f + 1, g, st, x, hm, h => by
    rw [rowL] at h
    cases hkd : kinds st.now with
    | none => rw [hkd] at h; injection h with h; subst h; exact hm
    | some k =>
      rw [hkd] at h
      simp only at h
      obtain ⟨q1, q2, q3, q4⟩ := hm
      cases hs : stepB s st.i with
      | error a => rw [hs] at h; injection h with h; subst h; exact step_err q1.le hs
      | ok st1 =>
        rw [hs] at h
        simp only at h
        obtain ⟨g1, p1⟩ := step_gz q1.le hs
        cases ho : one st1 with
        | none => rw [ho] at h; cases h
        | some y =>
          have hy := hone _ _ g1 ho
          rw [ho] at h
          cases y with
          | error a => simp only at h; injection h with h; subst h; exact hy
          | ok z =>
            obtain ⟨h2, st2⟩ := z
            obtain ⟨k1, k2⟩ := hk _ _ hkd
            exact rowL_mr hone hk p0 f _ _ _ (join_mr k1 k2 q1 q2 q3 q4 p1 hy) h
theorem thenP_mr {s : ByteArray} {r : PR} {k : GT → GSt → PR} {p0 : Nat} {x : Except Nat (GT × GSt)} (h : thenP r k = some x) (hr : ∀ y, r = some y → MR s p0 y) (hk : ∀ g st, MR s p0 (.ok (g, st)) → k g st = some x → MR s p0 x) : MR s p0 x := by
  rcases thenP_some h with ⟨a, h1, rfl⟩ | ⟨g, st, h1, h2⟩
  · exact hr _ h1
  · exact hk g st (hr _ h1) h2
/-- a leaf out of one token -/
theorem leaf_mr {s : ByteArray} {st : GSt} {x : Except Nat (GT × GSt)} {k : Nat} {n : Int} {t : ByteArray} (hz : GSz s st) (hm : (GT.leaf k n t).may) (hl : (leafT k n t).length ≤ 5 * st.now.size) (ht : 1 + t.size ≤ 3 * st.now.size) (h : thenS (stepB s st.i) (fun st1 => some (.ok (.leaf k n t, st1))) = some x) : MR s st.pos x := by
  cases hs : stepB s st.i with
  | error a => rw [hs] at h; injection h with h; subst h; exact step_err hz.le hs
  | ok st1 =>
    rw [hs] at h
    injection h with h; subst h
    obtain ⟨g1, p1⟩ := step_gz hz.le hs
    have he := hz.eq
    refine ⟨g1, hm, ?_, ?_⟩
    · show (leafT k n t).length + _ ≤ _
      omega
    · simp only [GT.toGD, GD.size, GD.sizes]
      omega
theorem dec_len {l : List UInt8} (hne : l ≠ []) (hd : l.all digitB = true) : (Lib.decDigits (spell 0 l)).length ≤ l.length := by
  have h1 := spell_ltG l 0 hd
  have hpos : 0 < l.length := List.length_pos_iff.2 hne
  obtain ⟨m, hm⟩ : ∃ m, l.length = m + 1 := ⟨l.length - 1, by omega⟩
  rw [Lib.decDigits_length, hm]
  rw [hm] at h1
  exact nd_le m _ (by omega)
/-- a quoted token is of bytes that may be quoted -/
theorem tok_quoted {now : ByteArray} (h : TokOk now) (h0 : 0 < now.size) (hd : now.data.toList.headD 0 = 39) : 2 ≤ now.size ∧ ((now.extract 1 (now.size - 1)).data.toList).all quotB = true ∧ (now.extract 1 (now.size - 1)).size + 2 = now.size := by
  have h2 := tok_quote h h0 hd
  refine ⟨h2, ?_, by rw [ByteArray.size_extract]; omega⟩
  rcases h with h | ⟨l, hl, hlo⟩
  · omega
  · match l, hl, hlo with
    | [], _, hlo => exact absurd hlo (by decide)
    | c :: r, hl, hlo =>
      have hc : c = 39 := by
        rw [hl] at hd
        obtain ⟨m, hm⟩ : ∃ m, longB (c :: r) = m + 1 := ⟨longB (c :: r) - 1, by omega⟩
        rw [hm] at hd
        exact hd
      subst hc
      have hlen := congrArg List.length hl
      rw [ba_len, List.length_take] at hlen
      have hle := longB_le (39 :: r)
      rw [longB, if_neg (by decide), if_neg (by decide), if_pos rfl] at hlo hlen hle hl
      split at hlo
      · rename_i hx
        rw [if_pos hx] at hlen hl hle
        simp only [ByteArray.data_extract, Array.toList_extract]
        show ((now.data.toList.drop 1).take (now.size - 1 - 1)).all quotB = true
        rw [hl]
        have ht : ((39 :: r).take ((r.takeWhile (· != 39)).length + 2)).drop 1 = r.take ((r.takeWhile (· != 39)).length + 1) := rfl
        rw [ht, List.take_take, show min (now.size - 1 - 1) ((r.takeWhile (· != 39)).length + 1) = (r.takeWhile (· != 39)).length by omega, take_takeWhile]
        exact hx.2
      · omega
theorem name_mr {s : ByteArray} {st : GSt} {x : Except Nat (GT × GSt)} (hz : GSz s st) (h : thenS (if namedG st.now = true then stepB s st.i else .error st.pos) (fun st1 => some (.ok (.leaf 5 0 st.now, st1))) = some x) : MR s st.pos x := by
  by_cases hn : namedG st.now = true
  · rw [if_pos hn] at h
    have h0 : 0 < st.now.size := by
      unfold namedG at hn
      simp only [Bool.and_eq_true, decide_eq_true_eq] at hn
      exact hn.1.1.1.1
    exact leaf_mr hz (.inr (.inr (.inr ⟨.inl rfl, rfl, hn⟩))) (by show st.now.data.toList.length ≤ _; rw [ba_len]; omega) (by omega) h
  · rw [if_neg hn] at h
    injection h with h; subst h
    have := hz.eq; have := hz.le
    show st.pos ≤ s.size
    omega
theorem thenS_mr {s : ByteArray} {r : Except Nat GSt} {k : GSt → PR} {p0 : Nat} {x : Except Nat (GT × GSt)} (h : thenS r k = some x) (he : ∀ a, r = .error a → a ≤ s.size) (hk : ∀ st, r = .ok st → k st = some x → MR s p0 x) : MR s p0 x := by
  cases r with
  | error a => injection h with h; subst h; exact he a rfl
  | ok st => exact hk st rfl h
theorem need_gz {s x : ByteArray} {st st' : GSt} (hz : GSz s st) (h : needB s x st = .ok st') : GSz s st' ∧ st.i ≤ st'.pos ∧ st.now = x := by
  unfold needB at h
  split at h
  · rename_i hx
    have := step_gz hz.le h
    exact ⟨this.1, this.2, hx⟩
  · cases h
theorem need_errB {s x : ByteArray} {st : GSt} {a : Nat} (hz : GSz s st) (h : needB s x st = .error a) : a ≤ s.size := by
  unfold needB at h
  split at h
  · exact step_err hz.le h
  · injection h with h; have := hz.eq; have := hz.le; omega
theorem open_mr {s : ByteArray} {st : GSt} {x : Except Nat (GT × GSt)} {k : Nat} (hk : (k = 6 ∧ st.now = openS) ∨ (k = 7 ∧ st.now = doneS)) (hz : GSz s st)
    (h : (thenS (stepB s st.i) fun st1 => thenS (needB s lparS st1) fun st2 => thenS (if namedG st2.now = true then stepB s st2.i else .error st2.pos) fun st3 => thenS (needB s rparS st3) fun st4 => some (.ok (.leaf k 0 st2.now, st4))) = some x) : MR s st.pos x := by
  have hns : st.now.size = 4 := by rcases hk with ⟨_, h⟩ | ⟨_, h⟩ <;> rw [h] <;> rfl
  refine thenS_mr h (fun a ha => step_err hz.le ha) fun s1 e1 h => ?_
  obtain ⟨g1, p1⟩ := step_gz hz.le e1
  refine thenS_mr h (fun a ha => need_errB g1 ha) fun s2 e2 h => ?_
  obtain ⟨g2, p2, n2⟩ := need_gz g1 e2
  have hl1 : s1.now.size = 1 := by rw [n2]; rfl
  by_cases hn : namedG s2.now = true
  · rw [if_pos hn] at h
    refine thenS_mr h (fun a ha => step_err g2.le ha) fun s3 e3 h => ?_
    obtain ⟨g3, p3⟩ := step_gz g2.le e3
    refine thenS_mr h (fun a ha => need_errB g3 ha) fun s4 e4 h => ?_
    obtain ⟨g4, p4, n4⟩ := need_gz g3 e4
    have hl3 : s3.now.size = 1 := by rw [n4]; rfl
    injection h with h; subst h
    have q0 := hz.eq; have q1 := g1.eq; have q2 := g2.eq; have q3 := g3.eq
    refine ⟨g4, .inr (.inr (.inr ⟨?_, rfl, hn⟩)), ?_, ?_⟩
    · rcases hk with ⟨h, _⟩ | ⟨h, _⟩ <;> simp [h]
    · show (leafT k 0 s2.now).length + _ ≤ _
      have : (leafT k 0 s2.now).length = s2.now.size + 6 := by rcases hk with ⟨h, _⟩ | ⟨h, _⟩ <;> subst h <;> simp [leafT]
      omega
    · simp only [GT.toGD, GD.size, GD.sizes]
      omega
  · rw [if_neg hn] at h
    injection h with h; subst h
    have := g2.eq; have := g2.le
    show s2.pos ≤ s.size
    omega
theorem pars_mr (s : ByteArray) : ∀ (f : Nat) (nt : NT), MP s (pars s f nt)
  | 0, _, _, _, _, h => by cases h
  | f + 1, .guard, st, x, hz, h => by
    rw [pars] at h
    exact thenP_mr h (fun y hy => pars_mr s f .side _ _ hz hy) fun g st1 hm h => rowL_mr (pars_mr s f .side) kinds_ok.1 st.pos f g st1 x hm h
  | f + 1, .side, st, x, hz, h => by
    rw [pars] at h
    exact thenP_mr h (fun y hy => pars_mr s f .part _ _ hz hy) fun g st1 hm h => rowL_mr (pars_mr s f .part) kinds_ok.2.1 st.pos f g st1 x hm h
  | f + 1, .sum, st, x, hz, h => by
    rw [pars] at h
    exact thenP_mr h (fun y hy => pars_mr s f .product _ _ hz hy) fun g st1 hm h => rowL_mr (pars_mr s f .product) kinds_ok.2.2.2.1 st.pos f g st1 x hm h
  | f + 1, .product, st, x, hz, h => by
    rw [pars] at h
    exact thenP_mr h (fun y hy => pars_mr s f .atom _ _ hz hy) fun g st1 hm h => rowL_mr (pars_mr s f .atom) kinds_ok.2.2.2.2 st.pos f g st1 x hm h
  | f + 1, .part, st, x, hz, h => by
    rw [pars] at h
    split at h
    · rename_i hn
      have hl : st.now.size = 3 := by rw [hn]; rfl
      refine thenS_mr h (fun a ha => step_err hz.le ha) fun s1 e1 h => ?_
      obtain ⟨g1, p1⟩ := step_gz hz.le e1
      cases hp : pars s f .part s1 with
      | none => rw [hp] at h; cases h
      | some y =>
        have hy := pars_mr s f .part _ _ g1 hp
        rw [hp] at h
        cases y with
        | error a => injection h with h; subst h; exact hy
        | ok z =>
          obtain ⟨g, s2⟩ := z
          injection h with h; subst h
          obtain ⟨q1, q2, q3, q4⟩ := hy
          have he := hz.eq
          refine ⟨q1, ⟨rfl, q2⟩, ?_, ?_⟩
          · rw [one_kid]; omega
          · simp only [GT.toGD, GD.size, GD.sizes]
            show 1 + 0 + _ + _ ≤ _
            omega
    · refine thenP_mr h (fun y hy => pars_mr s f .sum _ _ hz hy) fun g st1 hm h => ?_
      cases hk : kRel st1.now with
      | none => rw [hk] at h; injection h with h; subst h; exact hm
      | some k =>
        rw [hk] at h
        obtain ⟨k1, k2⟩ := kinds_ok.2.2.1 _ _ hk
        obtain ⟨q1, q2, q3, q4⟩ := hm
        refine thenS_mr h (fun a ha => step_err q1.le ha) fun s2 e2 h => ?_
        obtain ⟨g2, p2⟩ := step_gz q1.le e2
        cases hp : pars s f .sum s2 with
        | none => rw [hp] at h; cases h
        | some y =>
          have hy := pars_mr s f .sum _ _ g2 hp
          rw [hp] at h
          cases y with
          | error a => injection h with h; subst h; exact hy
          | ok z =>
            obtain ⟨g3, s3⟩ := z
            injection h with h; subst h
            exact join_mr k1 k2 q1 q2 q3 q4 p2 hy
  | f + 1, .atom, st, x, hz, h => by
    by_cases h1 : st.now = trueS
    · rw [at1 h1] at h
      have : st.now.size = 4 := by rw [h1]; rfl
      exact leaf_mr hz (.inl ⟨.inl rfl, rfl, rfl⟩) (by rw [this]; decide) (by rw [this]; decide) h
    by_cases h2 : st.now = falseS
    · rw [at2 h1 h2] at h
      have : st.now.size = 5 := by rw [h2]; rfl
      exact leaf_mr hz (.inl ⟨.inr rfl, rfl, rfl⟩) (by rw [this]; decide) (by rw [this]; decide) h
    by_cases h3 : st.now = openS ∨ st.now = doneS
    · rw [at3 h1 h2 h3] at h
      refine open_mr ?_ hz h
      rcases h3 with h3 | h3
      · exact .inl ⟨by rw [if_neg (by rw [h3]; decide)], h3⟩
      · exact .inr ⟨by rw [if_pos h3], h3⟩
    by_cases h4 : st.now = lparS
    · rw [at4 h1 h2 h3 h4] at h
      refine thenS_mr h (fun a ha => step_err hz.le ha) fun s1 e1 h => ?_
      obtain ⟨g1, p1⟩ := step_gz hz.le e1
      cases hp : pars s f .guard s1 with
      | none => rw [hp] at h; cases h
      | some y =>
        have hy := pars_mr s f .guard _ _ g1 hp
        rw [hp] at h
        cases y with
        | error a => injection h with h; subst h; exact hy
        | ok z =>
          obtain ⟨g, s2⟩ := z
          obtain ⟨q1, q2, q3, q4⟩ := hy
          simp only [thenP] at h
          refine thenS_mr h (fun a ha => need_errB q1 ha) fun s3 e3 h => ?_
          obtain ⟨g3, p3, -⟩ := need_gz q1 e3
          injection h with h; subst h
          have := hz.eq; have := q1.eq
          exact ⟨g3, q2, by omega, by omega⟩
    by_cases h5 : 0 < st.now.size ∧ digitB (st.now.data.toList.headD 0) = true
    · rw [at5 h1 h2 h3 h4 h5] at h
      obtain ⟨q1, q2, q3⟩ := tok_digits hz.tok h5.1 h5.2
      have hl := dec_len q1 q2
      rw [ba_len] at hl
      refine leaf_mr hz (.inr (.inl ⟨rfl, by omega, by omega, rfl⟩)) ?_ (by show 1 + 0 ≤ _; omega) h
      show (Lib.decDigits ((spell 0 st.now.data.toList : Int).toNat)).length ≤ _
      rw [Int.toNat_natCast]
      omega
    by_cases h6 : 0 < st.now.size ∧ st.now.data.toList.headD 0 = 39
    · rw [at6 h1 h2 h3 h4 h5 h6] at h
      obtain ⟨q1, q2, q3⟩ := tok_quoted hz.tok h6.1 h6.2
      refine leaf_mr hz (.inr (.inr (.inl ⟨rfl, rfl, q2⟩))) ?_ (by omega) h
      show (39 :: (_ ++ [39])).length ≤ _
      rw [List.length_cons, List.length_append, ba_len]
      simp only [List.length_singleton]
      omega
    rw [at7 h1 h2 h3 h4 h5 h6] at h
    exact name_mr hz h
/-- what is read -/
theorem readG_mr {s : ByteArray} {f : Nat} {x : Except (Nat × Int) GT} (h : readG s f = some x) : match x with
    | .ok g => g.may ∧ g.deep ≤ 32 ∧ g.txt.length ≤ 5 * s.size ∧ g.toGD.size ≤ 3 * s.size
    | .error (a, _) => a ≤ s.size := by
  unfold readG at h
  cases hs : stepB s 0 with
  | error a => rw [hs] at h; injection h with h; subst h; exact step_err (Nat.zero_le _) hs
  | ok st =>
    rw [hs] at h
    simp only at h
    obtain ⟨g0, p0⟩ := step_gz (Nat.zero_le _) hs
    cases hp : pars s f .guard st with
    | none => rw [hp] at h; cases h
    | some y =>
      have hy := pars_mr s f .guard _ _ g0 hp
      rw [hp] at h
      cases y with
      | error a => simp only at h; injection h with h; subst h; exact hy
      | ok z =>
        obtain ⟨g, st1⟩ := z
        obtain ⟨q1, q2, q3, q4⟩ := hy
        have hle : st1.pos ≤ s.size := by have := q1.eq; have := q1.le; omega
        simp only at h
        split at h
        · injection h with h; subst h; exact hle
        · split at h
          · injection h with h; subst h; exact Nat.zero_le _
          · injection h with h; subst h
            rename_i hd
            have hw : g.txt.length ≤ g.kid.length := by show _ ≤ (wrapT _ _).length; unfold wrapT; split <;> simp; omega
            exact ⟨q2, by omega, by omega, by omega⟩
end Go.Proofs.YtkmgbkcpjlilpaaDoor
