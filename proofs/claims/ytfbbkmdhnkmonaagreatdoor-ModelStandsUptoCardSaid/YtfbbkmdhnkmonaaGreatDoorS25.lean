/- package guard: the grammar's functions all together; deep. -/
import Derived.Test.YtfbbkmdhnkmonaaGreatDoorS24
namespace Go.Proofs.YtfbbkmdhnkmonaaGreatDoor
open Go.RowKit

theorem all_sub {R : Nat} {s : ByteArray} (hs : s.size ≤ 17000) : ∀ N, SubC R s N 80 .guard ∧ SubC R s N 145 .part := by
  intro N
  induction N using Nat.strongRecOn with
  | ind N ih =>
    have hpart := part_sub hs (sum_sub hs (product_sub hs (atom_sub hs fun N' h => (ih N' h).1))) (fun N' h => (ih N' h).2)
    exact ⟨guard_sub hs (side_sub hs hpart), hpart⟩

theorem deep_pos : ∀ t : GT, 1 ≤ t.deep
  | .leaf .. => Nat.le_refl _
  | .one _ a => by simp [GT.deep]
  | .two _ a b => by simp [GT.deep]
/-! A guard is not deeper than its text is long. -/
def DP (s : ByteArray) (p : GSt → PR) : Prop := ∀ st g st1, GS s st → p st = some (.ok (g, st1)) → GS s st1 ∧ g.deep + st.pos ≤ st1.pos + 1
theorem thenS_ok {r : Except Nat GSt} {k : GSt → PR} {x : GT × GSt} (h : thenS r k = some (.ok x)) : ∃ st1, r = .ok st1 ∧ k st1 = some (.ok x) := by
  cases r with
  | error a => simp [thenS] at h
  | ok st1 => exact ⟨st1, rfl, h⟩
theorem thenP_ok {r : PR} {k : GT → GSt → PR} {x : GT × GSt} (h : thenP r k = some (.ok x)) : ∃ g st1, r = some (.ok (g, st1)) ∧ k g st1 = some (.ok x) := by
  rcases thenP_some h with ⟨a, _, h2⟩ | ⟨g, st, h1, h2⟩
  · cases h2
  · exact ⟨g, st, h1, h2⟩
theorem adv_pos {s : ByteArray} {st st1 : GSt} (hg : GS s st) (hne : st.now.size ≠ 0) (h : stepB s st.i = .ok st1) : GS s st1 ∧ st.pos < st1.pos := by
  obtain ⟨h1, h2⟩ := step_gs hg.le h
  refine ⟨h1, ?_⟩
  rcases hg.adv with h3 | h3
  · exact absurd h3 hne
  · omega
theorem rowL_deep {s : ByteArray} {p : GSt → PR} {kinds : ByteArray → Option Nat} (hp : DP s p) (hne : ∀ x k, kinds x = some k → x.size ≠ 0) : ∀ (f : Nat) (g : GT) (st : GSt) (q : Nat) (g1 : GT) (st1 : GSt), GS s st → g.deep + q ≤ st.pos + 1 → rowL s p kinds f g st = some (.ok (g1, st1)) → GS s st1 ∧ g1.deep + q ≤ st1.pos + 1
  | 0, _, _, _, _, _, _, _, h => by cases h
  | f + 1, g, st, q, g1, st1, hg, hd, h => by
    rw [rowL] at h
    cases hk : kinds st.now with
    | none =>
      rw [hk] at h
      injection h with h; injection h with h; injection h with h1 h2
      subst h1; subst h2
      exact ⟨hg, hd⟩
    | some k =>
      rw [hk] at h
      simp only at h
      cases hs : stepB s st.i with
      | error a => rw [hs] at h; simp at h
      | ok st2 =>
        rw [hs] at h
        simp only at h
        obtain ⟨hg2, hlt⟩ := adv_pos hg (hne _ _ hk) hs
        cases ho : p st2 with
        | none => rw [ho] at h; cases h
        | some y =>
          rw [ho] at h
          cases y with
          | error a => simp at h
          | ok z =>
            obtain ⟨g3, st3⟩ := z
            simp only at h
            obtain ⟨hg3, hd3⟩ := hp _ _ _ hg2 ho
            refine rowL_deep hp hne f _ _ q _ _ hg3 ?_ h
            have h1 := deep_pos g
            have h2 := deep_pos g3
            simp only [GT.deep]
            omega
theorem kinds_ne {x : ByteArray} {k : Nat} (h : kOr x = some k ∨ kAnd x = some k ∨ kSum x = some k ∨ kMul x = some k ∨ kRel x = some k) : x.size ≠ 0 := by
  unfold kOr kAnd kSum kMul kRel at h
  rcases h with h | h | h | h | h
  all_goals
    split at h
    · rename_i hx; subst hx; decide
    · first
      | cases h; done
      | (split at h
         · rename_i hx; subst hx; decide
         · cases h)
theorem row_deep {s : ByteArray} {p : GSt → PR} {kinds : ByteArray → Option Nat} (hp : DP s p) (hne : ∀ x k, kinds x = some k → x.size ≠ 0) (f : Nat) : DP s fun st => thenP (p st) fun g st1 => rowL s p kinds f g st1 := by
  intro st g st1 hg h
  obtain ⟨g2, st2, h1, h2⟩ := thenP_ok h
  obtain ⟨hg2, hd2⟩ := hp _ _ _ hg h1
  exact rowL_deep hp hne f _ _ _ _ _ hg2 hd2 h2
theorem pars_deep (s : ByteArray) : ∀ (f : Nat) (nt : NT), DP s (pars s f nt)
  | 0, _ => fun _ _ _ _ h => by cases h
  | f + 1, .guard => fun st g st1 hg h => by
    rw [pars] at h
    exact row_deep (pars_deep s f .side) (fun x k h => kinds_ne (.inl h)) f st g st1 hg h
  | f + 1, .side => fun st g st1 hg h => by
    rw [pars] at h
    exact row_deep (pars_deep s f .part) (fun x k h => kinds_ne (.inr (.inl h))) f st g st1 hg h
  | f + 1, .part => fun st g st1 hg h => by
    rw [pars] at h
    split at h
    · rename_i hn
      obtain ⟨st2, h1, h2⟩ := thenS_ok h
      obtain ⟨g3, st3, h3, h4⟩ := thenP_ok h2
      injection h4 with h4; injection h4 with h4; injection h4 with h5 h6
      subst h5; subst h6
      obtain ⟨hg2, hlt⟩ := adv_pos hg (by rw [hn]; decide) h1
      obtain ⟨hg3, hd3⟩ := pars_deep s f .part _ _ _ hg2 h3
      exact ⟨hg3, by simp only [GT.deep]; omega⟩
    · obtain ⟨g2, st2, h1, h2⟩ := thenP_ok h
      obtain ⟨hg2, hd2⟩ := pars_deep s f .sum _ _ _ hg h1
      cases hk : kRel st2.now with
      | none =>
        rw [hk] at h2
        injection h2 with h2; injection h2 with h2; injection h2 with h3 h4
        subst h3; subst h4
        exact ⟨hg2, hd2⟩
      | some k =>
        rw [hk] at h2
        obtain ⟨st3, h3, h4⟩ := thenS_ok h2
        obtain ⟨g4, st4, h5, h6⟩ := thenP_ok h4
        injection h6 with h6; injection h6 with h6; injection h6 with h7 h8
        subst h7; subst h8
        obtain ⟨hg3, hlt⟩ := adv_pos hg2 (kinds_ne (.inr (.inr (.inr (.inr hk))))) h3
        obtain ⟨hg4, hd4⟩ := pars_deep s f .sum _ _ _ hg3 h5
        exact ⟨hg4, by have := deep_pos g2; have := deep_pos g4; simp only [GT.deep]; omega⟩
  | f + 1, .sum => fun st g st1 hg h => by
    rw [pars] at h
    exact row_deep (pars_deep s f .product) (fun x k h => kinds_ne (.inr (.inr (.inl h)))) f st g st1 hg h
  | f + 1, .product => fun st g st1 hg h => by
    rw [pars] at h
    exact row_deep (pars_deep s f .atom) (fun x k h => kinds_ne (.inr (.inr (.inr (.inl h))))) f st g st1 hg h
  | f + 1, .atom => fun st g st1 hg h => by
    have one : ∀ {t : GT} {st2 : GSt}, t.deep = 1 → GS s st2 → st.i ≤ st2.pos → GS s st2 ∧ t.deep + st.pos ≤ st2.pos + 1 := fun h1 h2 h3 => ⟨h2, by have := hg.pos; omega⟩
    have st1s : ∀ {k : Nat} {n : Int} {x : ByteArray}, thenS (stepB s st.i) (fun st1 => some (.ok (.leaf k n x, st1))) = some (.ok (g, st1)) → GS s st1 ∧ g.deep + st.pos ≤ st1.pos + 1 := fun {k n x} h => by
      obtain ⟨st2, h1, h2⟩ := thenS_ok h
      injection h2 with h2; injection h2 with h2; injection h2 with h3 h4
      subst h3; subst h4
      obtain ⟨hg2, hp2⟩ := step_gs hg.le h1
      exact one rfl hg2 hp2
    have hnm : ∀ {k : Nat} {n : Int} {x : ByteArray}, thenS (if namedG st.now = true then stepB s st.i else .error st.pos) (fun st1 => some (.ok (.leaf k n x, st1))) = some (.ok (g, st1)) → GS s st1 ∧ g.deep + st.pos ≤ st1.pos + 1 := fun {k n x} h => by
      obtain ⟨st2, h1, h2⟩ := thenS_ok h
      injection h2 with h2; injection h2 with h2; injection h2 with h3 h4
      subst h3; subst h4
      obtain ⟨hg2, hp2⟩ := name_gs hg.le h1
      exact one rfl hg2 hp2
    by_cases h1 : st.now = trueS
    · rw [at1 h1] at h; exact st1s h
    by_cases h2 : st.now = falseS
    · rw [at2 h1 h2] at h; exact st1s h
    by_cases h3 : st.now = openS ∨ st.now = doneS
    · rw [at3 h1 h2 h3] at h
      obtain ⟨sa, ha, h⟩ := thenS_ok h
      obtain ⟨sb, hb, h⟩ := thenS_ok h
      obtain ⟨sc, hc, h⟩ := thenS_ok h
      obtain ⟨sd, hd, h⟩ := thenS_ok h
      injection h with h; injection h with h; injection h with h4 h5
      subst h4; subst h5
      obtain ⟨ga, pa⟩ := step_gs hg.le ha
      obtain ⟨gb, pb⟩ := need_gs ga.le hb
      obtain ⟨gc, pc⟩ := name_gs gb.le hc
      obtain ⟨gd, pd⟩ := need_gs gc.le hd
      refine one rfl gd ?_
      have := ga.pos; have := gb.pos; have := gc.pos
      omega
    by_cases h4 : st.now = lparS
    · rw [at4 h1 h2 h3 h4] at h
      obtain ⟨sa, ha, h⟩ := thenS_ok h
      obtain ⟨g2, sb, hb, h⟩ := thenP_ok h
      obtain ⟨sc, hc, h⟩ := thenS_ok h
      injection h with h; injection h with h; injection h with h5 h6
      subst h5; subst h6
      obtain ⟨ga, pa⟩ := step_gs hg.le ha
      obtain ⟨gb, db⟩ := pars_deep s f .guard _ _ _ ga hb
      obtain ⟨gc, pc⟩ := need_gs gb.le hc
      refine ⟨gc, ?_⟩
      have := hg.pos; have := gb.pos
      omega
    by_cases h5 : 0 < st.now.size ∧ digitB (st.now.data.toList.headD 0) = true
    · rw [at5 h1 h2 h3 h4 h5] at h; exact st1s h
    by_cases h6 : 0 < st.now.size ∧ st.now.data.toList.headD 0 = 39
    · rw [at6 h1 h2 h3 h4 h5 h6] at h; exact st1s h
    rw [at7 h1 h2 h3 h4 h5 h6] at h
    exact hnm h

/-! Kids. -/
def GT.kids : GT → List GT
  | .leaf .. => []
  | .one _ a => [a]
  | .two _ a b => [a, b]
theorem deep_kids : ∀ t : GT, t.deep = (t.kids.map GT.deep).foldl max 0 + 1
  | .leaf .. => rfl
  | .one _ a => by simp [GT.deep, GT.kids]
  | .two _ a b => by simp [GT.deep, GT.kids]
theorem GIs.kid {X : Nat → Prop} {w : World} : ∀ {t : GT} {cs : List Value}, GIs X w t cs → ∃ (k : Nat) (n : Int) (s : ByteArray) (a : Option Addr) (b : Nat), cs = [.int .u8 k, .int .i64 n, .string s, .slice a t.kids.length t.kids.length] ∧ (0 < t.kids.length → a = some ⟨b, 0, none⟩ ∧ b < w.heap.size) ∧
    ∀ m (h : m < t.kids.length), ∃ c0 c1 c2 c3, w.cell? ⟨b, m * 4, none⟩ = some c0 ∧ w.cell? ⟨b, m * 4 + 1, none⟩ = some c1 ∧ w.cell? ⟨b, m * 4 + 2, none⟩ = some c2 ∧ w.cell? ⟨b, m * 4 + 3, none⟩ = some c3 ∧ GIs X w t.kids[m] [c0, c1, c2, c3]
  | .leaf k n s, _, h => ⟨k, n, s, none, 0, h, fun h => absurd h (Nat.not_lt_zero _), fun m h => absurd h (by simp [GT.kids])⟩
  | .one k a, _, ⟨b, da, h1, _, h3, h4⟩ => by
    refine ⟨k, 0, ⟨#[]⟩, _, b, h1, fun _ => ⟨rfl, h3.lt⟩, fun m h => ?_⟩
    obtain rfl : m = 0 := by simp [GT.kids] at h; exact h
    obtain ⟨k2, n2, s2, a2, l2, c2, rfl⟩ := h4.four
    exact ⟨_, _, _, _, h3.cell (j := 0) (by simp), h3.cell (j := 1) (by simp), h3.cell (j := 2) (by simp), h3.cell (j := 3) (by simp), h4⟩
  | .two k a a2, _, ⟨b, da, db, h1, _, h3, h4, h5⟩ => by
    refine ⟨k, 0, ⟨#[]⟩, _, b, h1, fun _ => ⟨rfl, h3.lt⟩, fun m h => ?_⟩
    obtain ⟨k2, n2, s2, a2, l2, c2, rfl⟩ := h4.four
    obtain ⟨k3, n3, s3, a3, l3, c3, rfl⟩ := h5.four
    have h : m < 2 := h
    match m, h with
    | 0, _ => exact ⟨_, _, _, _, h3.cell (j := 0) (by simp), h3.cell (j := 1) (by simp), h3.cell (j := 2) (by simp), h3.cell (j := 3) (by simp), h4⟩
    | 1, _ => exact ⟨_, _, _, _, h3.cell (j := 4) (by simp), h3.cell (j := 5) (by simp), h3.cell (j := 6) (by simp), h3.cell (j := 7) (by simp), h5⟩
theorem kid_deep {t : GT} {m : Nat} (h : m < t.kids.length) : t.kids[m].deep < t.deep := by
  match t, m, h with
  | .one _ a, 0, _ => simp [GT.kids, GT.deep]
  | .two _ a b, 0, _ => simp only [GT.kids, GT.deep, List.getElem_cons_zero]; omega
  | .two _ a b, 1, _ => simp only [GT.kids, GT.deep, List.getElem_cons_succ, List.getElem_cons_zero]; omega

def maxD (t : GT) (m : Nat) : Nat := ((t.kids.take m).map GT.deep).foldl max 0
theorem maxD_succ {t : GT} {m : Nat} (h : m < t.kids.length) : maxD t (m + 1) = max (maxD t m) t.kids[m].deep := by
  rw [maxD, List.take_succ_eq_append_getElem h, List.map_append, List.foldl_append]; rfl
theorem maxD_all (t : GT) {m : Nat} (h : t.kids.length ≤ m) : maxD t m + 1 = t.deep := by
  rw [maxD, List.take_of_length_le h, deep_kids]
theorem maxD_lt {t : GT} : ∀ {m : Nat}, m ≤ t.kids.length → maxD t m < t.deep
  | 0, _ => by rw [deep_kids]; exact Nat.succ_pos _
  | m + 1, h => by
    rw [maxD_succ (by omega)]
    have h1 := maxD_lt (t := t) (m := m) (by omega)
    have h2 := kid_deep (t := t) (m := m) (by omega)
    omega

set_option maxHeartbeats 4000000 in
set_option maxRecDepth 100000 in
theorem deep_walk {X : Nat → Prop} : ∀ (d : Nat) (t : GT) (cs : List Value) (w : World), t.deep ≤ d → d ≤ 1000000 → GIs X w t cs →
    Calls Tryz.prog 81 #[.agg cs.toArray] w fun e w' => e = .returned (.int .i64 (t.deep : Int)) ∧ Below w.heap.size w w'
  | 0, t, _, _, h, _, _ => by rw [deep_kids] at h; omega
  | d + 1, t, cs, w, hd, hmax, h => by
    have HIH := Lib.hid (fun (t : GT) (cs : List Value) (w : World) (h1 : t.deep ≤ d) (h2 : GIs X w t cs) => deep_walk d t cs w h1 (by omega) h2)
    obtain ⟨k, n, sx, a, b, rfl, hb, hk⟩ := h.kid
    have HK := Lib.hid hk
    obtain ⟨l, hl⟩ : ∃ l, t.kids.length = l := ⟨_, rfl⟩
    have hl2 : l ≤ 2 := by rw [← hl]; cases t <;> simp [GT.kids]
    have HALL := Lib.hid (fun m (h : l ≤ m) => maxD_all t (m := m) (by omega))
    have HSUC := Lib.hid (fun m (h : m < t.kids.length) => maxD_succ (t := t) h)
    have HLT := Lib.hid (fun m (h : m ≤ t.kids.length) => maxD_lt (t := t) h)
    have HKD := Lib.hid (fun m (h : m < t.kids.length) => kid_deep (t := t) h)
    have h00 : maxD t 0 = 0 := rfl
    rw [hl] at hb ⊢
    have HL := Lib.hid hl
    clear hk hl h
    go_enter Tryz.func81, Tryz.ntmps81
    go_wp2_with fail
    go_loopw [3, 9] (fun n i wr => ∃ m : Nat, m ≤ l ∧ n = .int .i64 (maxD t m : Int) ∧ i = .int .i64 (m : Int) ∧ Hid (Below w.heap.size w wr)) (fun _ i _ => l - (intOf i).toNat)
    case atStart => exact ⟨0, Nat.zero_le _, by rw [h00]; rfl, rfl, (Below.refl _ _).alloc (Nat.le_refl _) _⟩
    case round =>
      obtain ⟨m, hm, rfl, rfl, HB⟩ := hrel
      by_cases hml : m < l
      · obtain ⟨rfl, hbl⟩ := hb (by omega)
        have i1 : (m : Int) < (l : Int) := by omega
        have i2 : (0 : Int) ≤ (m : Int) := by omega
        have hmk : m < t.kids.length := by rw [HL.out]; exact hml
        obtain ⟨c0, c1, c2, c3, y0, y1, y2, y3, hgi⟩ := HK.out m hmk
        replace y0 := (HB.out.cell (p := ⟨b, m * 4, none⟩) hbl).trans y0
        replace y1 := (HB.out.cell (p := ⟨b, m * 4 + 1, none⟩) hbl).trans y1
        replace y2 := (HB.out.cell (p := ⟨b, m * 4 + 2, none⟩) hbl).trans y2
        replace y3 := (HB.out.cell (p := ⟨b, m * 4 + 3, none⟩) hbl).trans y3
        obtain ⟨k2, n2, s2, a2, l2, cc2, he⟩ := hgi.four
        simp only [List.cons.injEq, and_true] at he
        obtain ⟨rfl, rfl, rfl, rfl⟩ := he
        have hkd := HKD.out m hmk
        have hIH := HIH.out t.kids[m] _ (wr.alloc (.cells #[.int .u8 k2, .int .i64 n2, .string s2, .slice a2 l2 cc2] 80)) (by omega) (hgi.below (HB.out.alloc HB.out.size _))
        have hsu := HSUC.out m hmk
        obtain ⟨q, hq⟩ : ∃ q, t.kids[m].deep = q := ⟨_, rfl⟩
        rw [hq] at hIH hsu hkd
        have HIH2 := Lib.hid hIH
        have HSU := Lib.hid hsu
        have hlt1 := HLT.out m (by omega)
        have wr1 : IntKind.i64.wrap ((m : Int) + 1) = (m : Int) + 1 := wrap_i64 (by omega) (by omega)
        clear hIH hsu hgi
        go_wp2_with fail
        refine HIH2.out.mono ?_
        rintro e w2 ⟨rfl, hb2⟩
        have HB2 := Lib.hid hb2
        clear hb2 HIH2
        go_wp2_with fail
        refine ⟨⟨m + 1, by omega, ?_, rfl, ?_⟩, by simp only [intOf]; omega⟩
        · rw [HSU.out]
          simp only [Value.int.injEq, true_and]
          omega
        · exact (HB.out.alloc HB.out.size _).trans (HB2.out.mono (by rw [size_alloc]; have := HB.out.size; omega))
      · have hme : l ≤ m := by omega
        have hfin := HALL.out m hme
        have i1 : ¬ (m : Int) < (l : Int) := by omega
        have wr1 : IntKind.i64.wrap ((maxD t m : Int) + 1) = (t.deep : Int) := by rw [wrap_i64 (by omega) (by omega), ← hfin]; rfl
        clear hb hfin
        go_wp2_with fail
        go_ret
        exact ⟨rfl, HB.out⟩
end Go.Proofs.YtfbbkmdhnkmonaaGreatDoor
