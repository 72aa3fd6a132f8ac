/- docketref17: atom. Written by wip/rfatomgen.py. -/
import Derived.Test.YtkmgbkcpjlilpaaDoorRfPart
namespace Go.Proofs.YtkmgbkcpjlilpaaDoor
open Go.RowKit

def nameX (s : ByteArray) : Except Nat GSt → Except Nat GSt
  | .ok st => if namedG st.now = true then stepB s st.i else .error st.pos
  | .error a => .error a
theorem rfNameX (R : Nat) (s : ByteArray) (x : Except Nat GSt) (w : World) (hs : s.size ≤ 17000) (hg : GSX s x) (h : RfIs R w s x) :
    Calls Tryd.prog 86 #[.pointer (some ⟨R, 0, none⟩)] w fun e w' => ∃ y, AdvR R s (nameX s x) (.string y) w e w' ∧ ∀ st, x = .ok st → namedG st.now = true → y = st.now := by
  cases x with
  | ok st =>
    refine (rfName_ok R s st w hs (hg st rfl) h).mono ?_
    rintro e w' ⟨y, h1, h2⟩
    exact ⟨y, h1, fun st' he => by injection he with he; subst he; exact h2⟩
  | error a =>
    refine (rfName_bad R s a w h).mono ?_
    rintro e w' ⟨y, h1⟩
    exact ⟨y, h1, fun _ he => by cases he⟩
theorem GSX.need {s y : ByteArray} {x : Except Nat GSt} (h : GSX s x) : GSX s (needX s y x) := by
  intro st' hst
  cases x with
  | error a => cases hst
  | ok st => exact (need_gs (h st rfl).le hst).1
theorem GSX.name {s : ByteArray} {x : Except Nat GSt} (h : GSX s x) : GSX s (nameX s x) := by
  intro st' hst
  cases x with
  | error a => cases hst
  | ok st => exact (name_gs (h st rfl).le hst).1
theorem px_leaf {s : ByteArray} {st : GSt} {r : Except Nat GSt} {k : Nat} {n : Int} {y : ByteArray} (hf : pars s 1 .atom st = thenS r fun st1 => some (.ok (.leaf k n y, st1))) (hr : ∀ st1, r = .ok st1 → GS s st1 ∧ st.i ≤ st1.pos) (hp : st.pos ≤ st.i) : PX s .atom (.ok st) r (some (.leaf k n y)) := by
  cases r with
  | error a => exact ⟨1, .error a, hf, rfl⟩
  | ok st1 =>
    obtain ⟨h1, h2⟩ := hr st1 rfl
    exact ⟨1, .ok (.leaf k n y, st1), hf, rfl, rfl, h1, by omega⟩
theorem px_open {s : ByteArray} {st : GSt} {k : Nat} {y : ByteArray} (hg : GS s st)
    (hf : pars s 1 .atom st = thenS (stepB s st.i) fun st1 => thenS (needB s lparS st1) fun st2 => thenS (if namedG st2.now = true then stepB s st2.i else .error st2.pos) fun st3 => thenS (needB s rparS st3) fun st4 => some (.ok (.leaf k 0 st2.now, st4)))
    (hy : ∀ st2, needX s lparS (stepB s st.i) = .ok st2 → namedG st2.now = true → y = st2.now) : PX s .atom (.ok st) (needX s rparS (nameX s (needX s lparS (stepB s st.i)))) (some (.leaf k 0 y)) := by
  have hpos := hg.pos
  cases h1 : stepB s st.i with
  | error a => exact ⟨1, .error a, by rw [hf, h1]; rfl, rfl⟩
  | ok st1 =>
    rw [h1] at hy hf
    obtain ⟨g1, p1⟩ := step_gs hg.le h1
    replace hf : pars s 1 .atom st = thenS (needB s lparS st1) _ := hf
    replace hy : ∀ st2, needB s lparS st1 = .ok st2 → namedG st2.now = true → y = st2.now := hy
    show PX s .atom (.ok st) (needX s rparS (nameX s (needB s lparS st1))) _
    cases h2 : needB s lparS st1 with
    | error a => exact ⟨1, .error a, by rw [hf, h2]; rfl, rfl⟩
    | ok st2 =>
      rw [h2] at hf
      replace hf : pars s 1 .atom st = thenS (if namedG st2.now = true then stepB s st2.i else .error st2.pos) _ := hf
      obtain ⟨g2, p2⟩ := need_gs g1.le h2
      show PX s .atom (.ok st) (needX s rparS (if namedG st2.now = true then stepB s st2.i else .error st2.pos)) _
      cases h3 : (if namedG st2.now = true then stepB s st2.i else .error st2.pos) with
      | error a => exact ⟨1, .error a, by rw [hf, h3]; rfl, rfl⟩
      | ok st3 =>
        rw [h3] at hf
        replace hf : pars s 1 .atom st = thenS (needB s rparS st3) _ := hf
        obtain ⟨g3, p3⟩ := name_gs g2.le h3
        have hn : namedG st2.now = true := by
          split at h3
          · assumption
          · cases h3
        obtain rfl := hy st2 h2 hn
        show PX s .atom (.ok st) (needB s rparS st3) _
        cases h4 : needB s rparS st3 with
        | error a => exact ⟨1, .error a, by rw [hf, h4]; rfl, rfl⟩
        | ok st4 =>
          rw [h4] at hf
          obtain ⟨g4, p4⟩ := need_gs g3.le h4
          have q1 := g1.pos
          have q2 := g2.pos
          have q3 := g3.pos
          exact ⟨1, _, hf, rfl, rfl, g4, by omega⟩
theorem px_paren {s : ByteArray} {st : GSt} {x2 : Except Nat GSt} {t2 : Option GT} (hg : GS s st)
    (hf : ∀ f, pars s (f + 1) .atom st = thenS (stepB s st.i) fun st1 => thenP (pars s f .guard st1) fun g st2 => thenS (needB s rparS st2) fun st3 => some (.ok (g, st3)))
    (hp : PX s .guard (stepB s st.i) x2 t2) : PX s .atom (.ok st) (needX s rparS x2) t2 := by
  have hpos := hg.pos
  cases h1 : stepB s st.i with
  | error a =>
    rw [h1] at hp
    obtain rfl : x2 = .error a := hp
    exact ⟨1, .error a, by rw [hf 0, h1]; rfl, rfl⟩
  | ok st1 =>
    rw [h1] at hp
    obtain ⟨fu, r, hp, hr⟩ := hp
    have hf' : pars s (fu + 1) .atom st = thenP (some r) fun g st2 => thenS (needB s rparS st2) fun st3 => some (.ok (g, st3)) := by
      rw [hf fu, h1]
      show thenP (pars s fu .guard st1) _ = _
      rw [hp]
    obtain ⟨g1, p1⟩ := step_gs hg.le h1
    cases r with
    | error a =>
      obtain rfl : x2 = .error a := hr
      exact ⟨fu + 1, .error a, hf', rfl⟩
    | ok gs =>
      obtain ⟨g2, st2⟩ := gs
      obtain ⟨rfl, rfl, gg, pp⟩ := hr
      replace hf' : pars s (fu + 1) .atom st = thenS (needB s rparS st2) _ := hf'
      show PX s .atom (.ok st) (needB s rparS st2) _
      cases h4 : needB s rparS st2 with
      | error a => exact ⟨fu + 1, .error a, by rw [hf', h4]; rfl, rfl⟩
      | ok st4 =>
        rw [h4] at hf'
        obtain ⟨g4, p4⟩ := need_gs gg.le h4
        have q1 := g1.pos
        have q2 := gg.pos
        exact ⟨fu + 1, _, hf', rfl, rfl, g4, by omega⟩
/-- the end of what atom does -/
def AtEnd (R : Nat) (s : ByteArray) (x0 : Except Nat GSt) (w : World) (e : Ending) (w' : World) : Prop :=
  KeepR R w w' ∧ ∃ x' t cs, e = .returned (.agg (List.toArray cs)) ∧ GX (fun k => k < w.heap.size) w' t cs ∧ RfIs R w' s x' ∧ PX s .atom x0 x' t
theorem rf_ret {R : Nat} {w W : World} {s : ByteArray} {x0 x' : Except Nat GSt} {t : Option GT} {a : Act} {c0 c1 c2 c3 d0 d1 d2 d3 : Value} (h2 : a.tmps.getD 2 undef = .pointer (some ⟨w.heap.size, 0, none⟩)) (hd : a.defers = []) (hk : KeepR R w W) (hRw : R < w.heap.size)
    (hr : RfIs R W s x') (ho : Arr W w.heap.size 24 [c0, c1, c2, c3]) (hx : GX (fun k => k < w.heap.size + 1) W t [d0, d1, d2, d3]) (hp : PX s .atom x0 x' t) :
    bodyPost Tryd.prog Tryd.f80 (AtEnd R s x0 w) .ret a ((((W.setCell ⟨w.heap.size, 0, none⟩ d0).setCell ⟨w.heap.size, 1, none⟩ d1).setCell ⟨w.heap.size, 2, none⟩ d2).setCell ⟨w.heap.size, 3, none⟩ d3) := by
  obtain ⟨k1, k2, k3, k4⟩ := storeO (d0 := d0) (d1 := d1) (d2 := d2) (d3 := d3) hk hr ho hx hRw
  refine ret_guard (fn := Tryd.f80) rfl (g := w.heap.size) (cs := [d0, d1, d2, d3]) h2 hd rfl k3 ?_
  exact ⟨k1, _, _, _, rfl, k4, k2, hp⟩
set_option maxHeartbeats 16000000 in
set_option maxRecDepth 100000 in
theorem rf_atom {R : Nat} {s : ByteArray} {N : Nat} (hs : s.size ≤ 17000) (hguard : ∀ M, M < N → SubX R s M 17 .guard) : SubX R s N 80 .atom := by
  intro x0 w hN hg h
  show Calls Tryd.prog 80 _ w (AtEnd R s x0 w)
  have hRw : R < w.heap.size := h.lt
  obtain ⟨w1, hw1⟩ : ∃ w1, w.alloc (.cells #[.int .u8 0, .int .i64 0, .string ⟨#[]⟩, .slice none 0 0] 24) = w1 := ⟨_, rfl⟩
  have HA1 : Hid (Arr w1 w.heap.size 24 zeroG) := hw1 ▸ Arr.new w zeroG 24
  have HB1 : Below w.heap.size w w1 := hw1 ▸ (Below.refl w.heap.size w).alloc (Nat.le_refl _) _
  have HK1 : Hid (KeepR R w w1) := .of HB1
  have HR1 : Hid (RfIs R w1 s x0) := h.below HB1
  have HGU := Lib.hid hguard
  have HN := Lib.hid hN
  clear hguard h hN HB1
  cases x0 with
  | error a =>
    have HF := Lib.hid (fun v => rfFail_bad R s a v w1 HR1.out)
    have hbad := HR1.out
    obtain ⟨i', p', hbad⟩ := hbad
    obtain ⟨x0, x1, x2, x3, x4, x5⟩ := rf_cells hbad
    clear hbad hg
    go_enter Tryd.func80, Tryd.ntmps80
    go_wp2_with fail
    clear hw1
    refine (HF.out _).mono ?_
    rintro e w2 ⟨hk2, rfl, hr2⟩
    have HK2 := Lib.hid (HK1.out.trans hk2)
    have HA2 := Lib.hid (HA1.out.keepR hk2 (by omega))
    have HR2 := Lib.hid hr2
    clear HF hk2 hr2 x0 x1 x2 x3 x4 x5
    have o0 := HA2.out.cell (j := 0) (by simp)
    have o1 := HA2.out.cell (j := 1) (by simp)
    have o2 := HA2.out.cell (j := 2) (by simp)
    have o3 := HA2.out.cell (j := 3) (by simp)
    simp only [List.getElem_cons_zero, List.getElem_cons_succ] at o0 o1 o2 o3
    have f0 := HA2.out.frozen 0
    have f1 := HA2.out.frozen 1
    have f2 := HA2.out.frozen 2
    have f3 := HA2.out.frozen 3
    go_wp2_with fail
    exact rf_ret (t := none) rfl rfl HK2.out hRw HR2.out HA2.out ⟨0, _, _, _, _, _, rfl⟩ rfl
  | ok st =>
    have HG0 := Lib.hid (hg st rfl)
    have HN0 := Lib.hid (HN.out st rfl)
    have hgood : Arr w1 R 47 [.string s, .int .i64 (st.i : Int), .int .i64 (st.pos : Int), .string st.now, .bool false, .int .i64 0] := HR1.out
    obtain ⟨-, -, x2, x3, x4, -⟩ := rf_cells hgood
    have HGD := Lib.hid hgood
    clear hgood hg
    have HST := Lib.hid (fun st' (h : stepB s st.i = .ok st') => step_gs HG0.out.le h)
    have HSG := Lib.hid (GSX.step HG0.out)
    by_cases h1 : st.now = trueS
    · have hIS := rfIs_yes R s st w1 hs HG0.out.le HR1.out
      rw [h1] at hIS x3
      have HIS := Lib.hid hIS
      have H1 := Lib.hid h1
      clear hIS h1
      go_enter Tryd.func80, Tryd.ntmps80
      go_wp2_with fail
      clear hw1
      refine HIS.out.mono ?_
      rintro e w2 ⟨hk2, rfl, hr2⟩
      have HK2 := Lib.hid (HK1.out.trans hk2)
      have HA2 := Lib.hid (HA1.out.keepR hk2 (by omega))
      have HR2 := Lib.hid hr2
      have hsz2 : w.heap.size < w2.heap.size := HA2.out.lt
      clear HIS hk2 hr2 x3 x4
      have o0 := HA2.out.cell (j := 0) (by simp)
      have o1 := HA2.out.cell (j := 1) (by simp)
      have o2 := HA2.out.cell (j := 2) (by simp)
      have o3 := HA2.out.cell (j := 3) (by simp)
      simp only [List.getElem_cons_zero, List.getElem_cons_succ] at o0 o1 o2 o3
      have f0 := HA2.out.frozen 0
      have f1 := HA2.out.frozen 1
      have f2 := HA2.out.frozen 2
      have f3 := HA2.out.frozen 3
      go_wp2_with fail
      exact rf_ret (t := some (.leaf 1 0 ⟨#[]⟩)) rfl rfl HK2.out hRw HR2.out HA2.out rfl (px_leaf (at1 H1.out) HST.out HG0.out.pos)
    by_cases h2 : st.now = falseS
    · have hIS := rfIs_yes R s st w1 hs HG0.out.le HR1.out
      have HN1 := Lib.hid (rfIs_no R s st trueS w1 h1 HR1.out)
      rw [h2] at hIS x3
      have HIS := Lib.hid hIS
      have H1 := Lib.hid h1
      have H2 := Lib.hid h2
      clear hIS h1 h2
      go_enter Tryd.func80, Tryd.ntmps80
      go_wp2_with fail
      clear hw1
      refine HN1.out.mono ?_
      rintro e w2 ⟨rfl, rfl⟩
      clear HN1
      go_wp2_with fail
      refine HIS.out.mono ?_
      rintro e w2 ⟨hk2, rfl, hr2⟩
      have HK2 := Lib.hid (HK1.out.trans hk2)
      have HA2 := Lib.hid (HA1.out.keepR hk2 (by omega))
      have HR2 := Lib.hid hr2
      have hsz2 : w.heap.size < w2.heap.size := HA2.out.lt
      clear HIS hk2 hr2 x3 x4
      have o0 := HA2.out.cell (j := 0) (by simp)
      have o1 := HA2.out.cell (j := 1) (by simp)
      have o2 := HA2.out.cell (j := 2) (by simp)
      have o3 := HA2.out.cell (j := 3) (by simp)
      simp only [List.getElem_cons_zero, List.getElem_cons_succ] at o0 o1 o2 o3
      have f0 := HA2.out.frozen 0
      have f1 := HA2.out.frozen 1
      have f2 := HA2.out.frozen 2
      have f3 := HA2.out.frozen 3
      go_wp2_with fail
      exact rf_ret (t := some (.leaf 2 0 ⟨#[]⟩)) rfl rfl HK2.out hRw HR2.out HA2.out rfl (px_leaf (at2 H1.out H2.out) HST.out HG0.out.pos)
    by_cases h3 : st.now = openS
    · have hIS := rfIs_yes R s st w1 hs HG0.out.le HR1.out
      have HN1 := Lib.hid (rfIs_no R s st trueS w1 h1 HR1.out)
      have HN2 := Lib.hid (rfIs_no R s st falseS w1 h2 HR1.out)
      rw [h3] at hIS x3
      have HIS := Lib.hid hIS
      have H1 := Lib.hid h1
      have H2 := Lib.hid h2
      have H3 := Lib.hid h3
      clear hIS h1 h2 h3
      go_enter Tryd.func80, Tryd.ntmps80
      go_wp2_with fail
      clear hw1
      refine HN1.out.mono ?_
      rintro e w2 ⟨rfl, rfl⟩
      clear HN1
      go_wp2_with fail
      refine HN2.out.mono ?_
      rintro e w2 ⟨rfl, rfl⟩
      clear HN2
      go_wp2_with fail
      refine HIS.out.mono ?_
      rintro e w2 ⟨hk2, rfl, hr2⟩
      have HK2 := Lib.hid (HK1.out.trans hk2)
      have HA2 := Lib.hid (HA1.out.keepR hk2 (by omega))
      have HR2 := Lib.hid hr2
      have hsz2 : w.heap.size < w2.heap.size := HA2.out.lt
      clear HIS hk2 hr2 x3 x4
      have HND := Lib.hid (rfNeed R s _ lparS w2 hs HSG.out.le HR2.out)
      go_wp2_with fail
      refine HND.out.mono ?_
      rintro e w3 ⟨hk3, rfl, hr3⟩
      have HK3 := Lib.hid (HK2.out.trans hk3)
      have HA3 := Lib.hid (HA2.out.keepR hk3 (by omega))
      have HG3 := Lib.hid (GSX.need (y := lparS) HSG.out)
      have HR3 := Lib.hid hr3
      have HNM := Lib.hid (rfNameX R s _ w3 hs HG3.out HR3.out)
      clear HND hk3 hr3 HK2 HA2 HR2
      go_wp2_with fail
      refine HNM.out.mono ?_
      rintro e w4 ⟨y, ⟨hk4, rfl, hr4⟩, hy⟩
      have HY := Lib.hid hy
      have HA4 := Lib.hid ((HA3.out.keepR hk4 (by omega)).alloc (.cells #[.int .u8 6, .int .i64 0, .string y, .slice none 0 0] 24))
      have hgb4 : w.heap.size < w4.heap.size := (HA3.out.keepR hk4 (by omega)).lt
      have HG4 := Lib.hid (GSX.name HG3.out)
      have hb4 := (Below.refl w4.heap.size w4).alloc (Nat.le_refl _) (.cells #[.int .u8 6, .int .i64 0, .string y, .slice none 0 0] 24)
      have HK4 := Lib.hid ((HK3.out.trans hk4).next hb4)
      have HR4 := Lib.hid (hr4.below hb4)
      have HB4 := Lib.hid (Arr.new w4 [.int .u8 6, .int .i64 0, .string y, .slice none 0 0] 24)
      have HND := Lib.hid (rfNeed R s _ rparS _ hs HG4.out.le HR4.out)
      clear HNM hk4 hr4 HK3 HA3 HR3 hy hb4
      go_wp2_with fail
      refine HND.out.mono ?_
      rintro e w5 ⟨hk5, rfl, hr5⟩
      have HK5 := Lib.hid (HK4.out.trans hk5)
      have HA5 := Lib.hid (HA4.out.keepR hk5 (by omega))
      have HB5 := Lib.hid (HB4.out.keepR hk5 (by omega))
      have HR5 := Lib.hid hr5
      clear HND hk5 hr5 HK4 HA4 HR4 HB4
      have o0 := HA5.out.cell (j := 0) (by simp)
      have o1 := HA5.out.cell (j := 1) (by simp)
      have o2 := HA5.out.cell (j := 2) (by simp)
      have o3 := HA5.out.cell (j := 3) (by simp)
      simp only [List.getElem_cons_zero, List.getElem_cons_succ] at o0 o1 o2 o3
      have f0 := HA5.out.frozen 0
      have f1 := HA5.out.frozen 1
      have f2 := HA5.out.frozen 2
      have f3 := HA5.out.frozen 3
      have y0 := HB5.out.cell (j := 0) (by simp)
      have y1 := HB5.out.cell (j := 1) (by simp)
      have y2 := HB5.out.cell (j := 2) (by simp)
      have y3 := HB5.out.cell (j := 3) (by simp)
      simp only [List.getElem_cons_zero, List.getElem_cons_succ] at y0 y1 y2 y3
      have hif : (if st.now = doneS then 7 else 6) = 6 := by rw [if_neg (by rw [H3.out]; decide)]
      have hat := at3 H1.out H2.out (.inl H3.out) (s := s) (f := 0)
      rw [hif] at hat
      have HAT := Lib.hid hat
      clear hif hat
      go_wp2_with fail
      exact rf_ret (t := some (.leaf 6 0 y)) rfl rfl HK5.out hRw HR5.out HA5.out rfl (px_open HG0.out HAT.out HY.out)
    by_cases h4 : st.now = doneS
    · have hIS := rfIs_yes R s st w1 hs HG0.out.le HR1.out
      have HN1 := Lib.hid (rfIs_no R s st trueS w1 h1 HR1.out)
      have HN2 := Lib.hid (rfIs_no R s st falseS w1 h2 HR1.out)
      have HN3 := Lib.hid (rfIs_no R s st openS w1 h3 HR1.out)
      rw [h4] at hIS x3
      have HIS := Lib.hid hIS
      have H1 := Lib.hid h1
      have H2 := Lib.hid h2
      have H3 := Lib.hid h3
      have H4 := Lib.hid h4
      clear hIS h1 h2 h3 h4
      go_enter Tryd.func80, Tryd.ntmps80
      go_wp2_with fail
      clear hw1
      refine HN1.out.mono ?_
      rintro e w2 ⟨rfl, rfl⟩
      clear HN1
      go_wp2_with fail
      refine HN2.out.mono ?_
      rintro e w2 ⟨rfl, rfl⟩
      clear HN2
      go_wp2_with fail
      refine HN3.out.mono ?_
      rintro e w2 ⟨rfl, rfl⟩
      clear HN3
      go_wp2_with fail
      refine HIS.out.mono ?_
      rintro e w2 ⟨hk2, rfl, hr2⟩
      have HK2 := Lib.hid (HK1.out.trans hk2)
      have HA2 := Lib.hid (HA1.out.keepR hk2 (by omega))
      have HR2 := Lib.hid hr2
      have hsz2 : w.heap.size < w2.heap.size := HA2.out.lt
      clear HIS hk2 hr2 x3 x4
      have HND := Lib.hid (rfNeed R s _ lparS w2 hs HSG.out.le HR2.out)
      go_wp2_with fail
      refine HND.out.mono ?_
      rintro e w3 ⟨hk3, rfl, hr3⟩
      have HK3 := Lib.hid (HK2.out.trans hk3)
      have HA3 := Lib.hid (HA2.out.keepR hk3 (by omega))
      have HG3 := Lib.hid (GSX.need (y := lparS) HSG.out)
      have HR3 := Lib.hid hr3
      have HNM := Lib.hid (rfNameX R s _ w3 hs HG3.out HR3.out)
      clear HND hk3 hr3 HK2 HA2 HR2
      go_wp2_with fail
      refine HNM.out.mono ?_
      rintro e w4 ⟨y, ⟨hk4, rfl, hr4⟩, hy⟩
      have HY := Lib.hid hy
      have HA4 := Lib.hid ((HA3.out.keepR hk4 (by omega)).alloc (.cells #[.int .u8 7, .int .i64 0, .string y, .slice none 0 0] 24))
      have hgb4 : w.heap.size < w4.heap.size := (HA3.out.keepR hk4 (by omega)).lt
      have HG4 := Lib.hid (GSX.name HG3.out)
      have hb4 := (Below.refl w4.heap.size w4).alloc (Nat.le_refl _) (.cells #[.int .u8 7, .int .i64 0, .string y, .slice none 0 0] 24)
      have HK4 := Lib.hid ((HK3.out.trans hk4).next hb4)
      have HR4 := Lib.hid (hr4.below hb4)
      have HB4 := Lib.hid (Arr.new w4 [.int .u8 7, .int .i64 0, .string y, .slice none 0 0] 24)
      have HND := Lib.hid (rfNeed R s _ rparS _ hs HG4.out.le HR4.out)
      clear HNM hk4 hr4 HK3 HA3 HR3 hy hb4
      go_wp2_with fail
      refine HND.out.mono ?_
      rintro e w5 ⟨hk5, rfl, hr5⟩
      have HK5 := Lib.hid (HK4.out.trans hk5)
      have HA5 := Lib.hid (HA4.out.keepR hk5 (by omega))
      have HB5 := Lib.hid (HB4.out.keepR hk5 (by omega))
      have HR5 := Lib.hid hr5
      clear HND hk5 hr5 HK4 HA4 HR4 HB4
      have o0 := HA5.out.cell (j := 0) (by simp)
      have o1 := HA5.out.cell (j := 1) (by simp)
      have o2 := HA5.out.cell (j := 2) (by simp)
      have o3 := HA5.out.cell (j := 3) (by simp)
      simp only [List.getElem_cons_zero, List.getElem_cons_succ] at o0 o1 o2 o3
      have f0 := HA5.out.frozen 0
      have f1 := HA5.out.frozen 1
      have f2 := HA5.out.frozen 2
      have f3 := HA5.out.frozen 3
      have y0 := HB5.out.cell (j := 0) (by simp)
      have y1 := HB5.out.cell (j := 1) (by simp)
      have y2 := HB5.out.cell (j := 2) (by simp)
      have y3 := HB5.out.cell (j := 3) (by simp)
      simp only [List.getElem_cons_zero, List.getElem_cons_succ] at y0 y1 y2 y3
      have hif : (if st.now = doneS then 7 else 6) = 7 := by rw [if_pos H4.out]
      have hat := at3 H1.out H2.out (.inr H4.out) (s := s) (f := 0)
      rw [hif] at hat
      have HAT := Lib.hid hat
      clear hif hat
      go_wp2_with fail
      exact rf_ret (t := some (.leaf 7 0 y)) rfl rfl HK5.out hRw HR5.out HA5.out rfl (px_open HG0.out HAT.out HY.out)
    by_cases h5 : st.now = lparS
    · have hIS := rfIs_yes R s st w1 hs HG0.out.le HR1.out
      have HN1 := Lib.hid (rfIs_no R s st trueS w1 h1 HR1.out)
      have HN2 := Lib.hid (rfIs_no R s st falseS w1 h2 HR1.out)
      have HN3 := Lib.hid (rfIs_no R s st openS w1 h3 HR1.out)
      have HN4 := Lib.hid (rfIs_no R s st doneS w1 h4 HR1.out)
      rw [h5] at hIS x3
      have HIS := Lib.hid hIS
      have H1 := Lib.hid h1
      have H2 := Lib.hid h2
      have H3 := Lib.hid h3
      have H4 := Lib.hid h4
      have H5 := Lib.hid h5
      clear hIS h1 h2 h3 h4 h5
      go_enter Tryd.func80, Tryd.ntmps80
      go_wp2_with fail
      clear hw1
      refine HN1.out.mono ?_
      rintro e w2 ⟨rfl, rfl⟩
      clear HN1
      go_wp2_with fail
      refine HN2.out.mono ?_
      rintro e w2 ⟨rfl, rfl⟩
      clear HN2
      go_wp2_with fail
      refine HN3.out.mono ?_
      rintro e w2 ⟨rfl, rfl⟩
      clear HN3
      go_wp2_with fail
      refine HN4.out.mono ?_
      rintro e w2 ⟨rfl, rfl⟩
      clear HN4
      go_wp2_with fail
      refine HIS.out.mono ?_
      rintro e w2 ⟨hk2, rfl, hr2⟩
      have HK2 := Lib.hid (HK1.out.trans hk2)
      have HA2 := Lib.hid (HA1.out.keepR hk2 (by omega))
      have HR2 := Lib.hid hr2
      have hsz2 : w.heap.size < w2.heap.size := HA2.out.lt
      clear HIS hk2 hr2 x3 x4
      have hn3 : ∀ st', stepB s st.i = .ok st' → s.size - st'.pos < N - 1 := fun st' hst => by
        have h1 := (HST.out st' hst).2
        have h2 := HG0.out.le
        have h3 : st.pos < st.i := by rcases HG0.out.adv with h | h; exact absurd h (by rw [H5.out]; decide); exact h
        have h4 := HN0.out
        omega
      have HN3 := Lib.hid hn3
      have hN1 : N - 1 < N := by have := HN0.out; omega
      clear hn3
      go_wp2_with fail
      refine (HGU.out (N - 1) hN1 _ w2 HN3.out HSG.out HR2.out).mono ?_
      rintro e w3 ⟨hk3, x5, t5, cs5, rfl, hx5, hr5, hp5⟩
      have HP5 := Lib.hid hp5
      obtain ⟨q1, m1, z1, b1, l1, c1, rfl⟩ := hx5.four
      have HA4 := Lib.hid ((HA2.out.keepR hk3 (by omega)).alloc (.cells #[.int .u8 q1, .int .i64 m1, .string z1, .slice b1 l1 c1] 24))
      have hgb4 : w.heap.size < w3.heap.size := (HA2.out.keepR hk3 (by omega)).lt
      have HG4 := Lib.hid (PX.gsx hp5)
      have hb4 := (Below.refl w3.heap.size w3).alloc (Nat.le_refl _) (.cells #[.int .u8 q1, .int .i64 m1, .string z1, .slice b1 l1 c1] 24)
      have HK4 := Lib.hid ((HK2.out.trans hk3).next hb4)
      have HR4 := Lib.hid (hr5.below hb4)
      have HB4 := Lib.hid (Arr.new w3 [.int .u8 q1, .int .i64 m1, .string z1, .slice b1 l1 c1] 24)
      have HX4 : Hid (GX (fun k => k < w.heap.size + 1) (w3.alloc (.cells #[.int .u8 q1, .int .i64 m1, .string z1, .slice b1 l1 c1] 24)) t5 [.int .u8 q1, .int .i64 m1, .string z1, .slice b1 l1 c1]) := (hx5.mono (fun k _ h => show k < w2.heap.size by omega)).below hb4
      have HND := Lib.hid (rfNeed R s _ rparS _ hs HG4.out.le HR4.out)
      clear hk3 hx5 hr5 hp5 hb4 HK2 HA2 HR2
      go_wp2_with fail
      refine HND.out.mono ?_
      rintro e w5 ⟨hk5, rfl, hr5⟩
      have HK5 := Lib.hid (HK4.out.trans hk5)
      have HA5 := Lib.hid (HA4.out.keepR hk5 (by omega))
      have HB5 := Lib.hid (HB4.out.keepR hk5 (by omega))
      have HX5 := Lib.hid (GX.keepR (X := fun k => k < w.heap.size + 1) (show R < w.heap.size + 1 by omega) hk5 HX4.out)
      have HR5 := Lib.hid hr5
      clear HND hk5 hr5 HK4 HA4 HR4 HB4 HX4
      have o0 := HA5.out.cell (j := 0) (by simp)
      have o1 := HA5.out.cell (j := 1) (by simp)
      have o2 := HA5.out.cell (j := 2) (by simp)
      have o3 := HA5.out.cell (j := 3) (by simp)
      simp only [List.getElem_cons_zero, List.getElem_cons_succ] at o0 o1 o2 o3
      have f0 := HA5.out.frozen 0
      have f1 := HA5.out.frozen 1
      have f2 := HA5.out.frozen 2
      have f3 := HA5.out.frozen 3
      have y0 := HB5.out.cell (j := 0) (by simp)
      have y1 := HB5.out.cell (j := 1) (by simp)
      have y2 := HB5.out.cell (j := 2) (by simp)
      have y3 := HB5.out.cell (j := 3) (by simp)
      simp only [List.getElem_cons_zero, List.getElem_cons_succ] at y0 y1 y2 y3
      go_wp2_with fail
      exact rf_ret rfl rfl HK5.out hRw HR5.out HA5.out HX5.out (px_paren HG0.out (fun f => at4 H1.out H2.out (by rintro (h | h); exact H3.out h; exact H4.out h) H5.out) HP5.out)
    have h34 : ¬ (st.now = openS ∨ st.now = doneS) := by rintro (h | h); exact h3 h; exact h4 h
    by_cases hz : st.now.size = 0
    · have hnow : st.now = ⟨#[]⟩ := ByteArray.ext (Array.eq_empty_of_size_eq_zero hz)
      have HP : Hid (PX s .atom (.ok st) (.error st.pos) none) := ⟨1, .error st.pos, by
        have hat := at7 (s := s) (f := 0) h1 h2 h34 h5 (fun h => by omega) (fun h => by omega)
        rw [hnow] at hat
        exact hat, rfl⟩
      have HF := Lib.hid (rfFail_ok R s st.i st.pos st.pos st.now w1 HGD.out)
      rw [hnow] at x3
      clear h1 h2 h3 h4 h5 h34 hz hnow
      go_enter Tryd.func80, Tryd.ntmps80
      go_wp2_with fail
      clear hw1
      refine HF.out.mono ?_
      rintro e w2 ⟨hk2, rfl, hr2⟩
      have HK2 := Lib.hid (HK1.out.trans hk2)
      have HA2 := Lib.hid (HA1.out.keepR hk2 (by omega))
      have HR2 := Lib.hid hr2
      clear HF hk2 hr2 x2 x3 x4
      have o0 := HA2.out.cell (j := 0) (by simp)
      have o1 := HA2.out.cell (j := 1) (by simp)
      have o2 := HA2.out.cell (j := 2) (by simp)
      have o3 := HA2.out.cell (j := 3) (by simp)
      simp only [List.getElem_cons_zero, List.getElem_cons_succ] at o0 o1 o2 o3
      have f0 := HA2.out.frozen 0
      have f1 := HA2.out.frozen 1
      have f2 := HA2.out.frozen 2
      have f3 := HA2.out.frozen 3
      go_wp2_with fail
      exact rf_ret (t := none) rfl rfl HK2.out hRw HR2.out HA2.out ⟨0, _, _, _, _, _, rfl⟩ HP.out
    have e0' : ¬ st.now.toList = [] := tol_ne (x := ⟨#[]⟩) (fun h => hz (by rw [h]; rfl)) rfl
    have e0 : (st.now.toList == []) = false := by simpa using e0'
    have e0'' : st.now.toList.isEmpty = false := by simpa using e0'
    have h0 : 0 < st.now.size := by omega
    have i0 : (0 : Int) < (st.now.size : Int) := by omega
    obtain ⟨c, hc⟩ : ∃ c, st.now[0]'h0 = c := ⟨_, rfl⟩
    have hhd : st.now.data.toList.headD 0 = c := by
      rw [← List.drop_zero (l := st.now.data.toList), drop_cons st.now 0 h0, hc]; rfl
    have HN1 := Lib.hid (rfIs_no R s st trueS w1 h1 HR1.out)
    have HN2 := Lib.hid (rfIs_no R s st falseS w1 h2 HR1.out)
    have HN3 := Lib.hid (rfIs_no R s st openS w1 h3 HR1.out)
    have HN4 := Lib.hid (rfIs_no R s st doneS w1 h4 HR1.out)
    have HN5 := Lib.hid (rfIs_no R s st lparS w1 h5 HR1.out)
    have hc2 : ((st.now[0]'h0).toNat : Int) = (c.toNat : Int) := by rw [hc]
    by_cases hd : digitB c = true
    · obtain ⟨hne, hall, hle⟩ := tok_digits HG0.out.tok h0 (by rw [hhd]; exact hd)
      have hd' : 48 ≤ c.toNat ∧ c.toNat ≤ 57 := by simpa [digitB] using hd
      have d1 : 48 ≤ ((st.now[0]'h0).toNat : Int) := by omega
      have d2 : ((st.now[0]'h0).toNat : Int) ≤ 57 := by omega
      have HAT := Lib.hid (at5 (s := s) (f := 0) h1 h2 h34 h5 ⟨h0, by rw [hhd]; exact hd⟩)
      have hgt : 19 < st.now.size → 9223372036854775807 < spell 0 st.now.data.toList := fun h => by
        by_cases h48 : c.toNat = 48
        · exfalso
          rcases HG0.out.tok with ht | ⟨l, hl, hlo⟩
          · omega
          · match l, hl, hlo with
            | [], _, hlo => exact absurd hlo (by decide)
            | c' :: r, hl, hlo =>
              have hcc : c' = c := by
                rw [hl] at hhd
                obtain ⟨m, hm⟩ : ∃ m, longB (c' :: r) = m + 1 := ⟨longB (c' :: r) - 1, by omega⟩
                rw [hm] at hhd
                exact hhd
              subst hcc
              have h48' : c' = 48 := UInt8.toNat_inj.1 h48
              subst h48'
              have hlen := congrArg List.length hl
              rw [ba_len, List.length_take] at hlen
              have h1 : longB (48 :: r) = 1 := by rw [longB, if_pos (by decide)]
              omega
        · exact spell_great (by rw [hhd]; omega) (by rw [ba_len]; exact h)
      have HINT := Lib.hid (fun W => rfInt_walk st.now W (by have := HG0.out.short; omega) hne hall hgt)
      have HLE := Lib.hid hle
      have HSP := Lib.hid (rfStep_ok R s st w1 hs HG0.out.le HR1.out)
      clear h1 h2 h3 h4 h5 h34 hz hne hall hle hgt hd hd' hhd hc hc2
      go_enter Tryd.func80, Tryd.ntmps80
      go_wp2_with fail
      clear hw1
      refine HN1.out.mono ?_
      rintro e w2 ⟨rfl, rfl⟩
      clear HN1
      go_wp2_with fail
      refine HN2.out.mono ?_
      rintro e w2 ⟨rfl, rfl⟩
      clear HN2
      go_wp2_with fail
      refine HN3.out.mono ?_
      rintro e w2 ⟨rfl, rfl⟩
      clear HN3
      go_wp2_with fail
      refine HN4.out.mono ?_
      rintro e w2 ⟨rfl, rfl⟩
      clear HN4
      go_wp2_with fail
      refine HN5.out.mono ?_
      rintro e w2 ⟨rfl, rfl⟩
      clear HN5
      go_wp2_with fail
      refine (HINT.out _).mono ?_
      rintro e w2 ⟨⟨n, b, rfl, rfl, hn⟩, rfl⟩
      obtain rfl := hn (decide_eq_true HLE.out)
      rw [decide_eq_true HLE.out]
      clear HINT hn
      go_wp2_with fail
      refine HSP.out.mono ?_
      rintro e w2 ⟨hk2, rfl, hr2⟩
      have HK2 := Lib.hid (HK1.out.trans hk2)
      have HA2 := Lib.hid (HA1.out.keepR hk2 (by omega))
      have HR2 := Lib.hid hr2
      clear HSP hk2 hr2 x2 x3 x4
      have o0 := HA2.out.cell (j := 0) (by simp)
      have o1 := HA2.out.cell (j := 1) (by simp)
      have o2 := HA2.out.cell (j := 2) (by simp)
      have o3 := HA2.out.cell (j := 3) (by simp)
      simp only [List.getElem_cons_zero, List.getElem_cons_succ] at o0 o1 o2 o3
      have f0 := HA2.out.frozen 0
      have f1 := HA2.out.frozen 1
      have f2 := HA2.out.frozen 2
      have f3 := HA2.out.frozen 3
      go_wp2_with fail
      exact rf_ret (t := some (.leaf 3 (spell 0 st.now.data.toList) ⟨#[]⟩)) rfl rfl HK2.out hRw HR2.out HA2.out rfl (px_leaf HAT.out HST.out HG0.out.pos)
    have hd' : ¬ (48 ≤ c.toNat ∧ c.toNat ≤ 57) := by simpa [digitB] using hd
    have h5' : ¬ (0 < st.now.size ∧ digitB (st.now.data.toList.headD 0) = true) := fun h => hd (by rw [← hhd]; exact h.2)
    by_cases hq : c = 39
    · have h2s := tok_quote HG0.out.tok h0 (by rw [hhd]; exact hq)
      have HAT := Lib.hid (at6 (s := s) (f := 0) h1 h2 h34 h5 h5' ⟨h0, by rw [hhd]; exact hq⟩)
      have hcq : c.toNat = 39 := by rw [hq]; rfl
      have d1 : ¬ 48 ≤ ((st.now[0]'h0).toNat : Int) := by omega
      have d39 : (((st.now[0]'h0).toNat : Int) == 39) = true := by rw [hc2, hcq]; rfl
      have hsh := HG0.out.short
      have wr1 : IntKind.i64.wrap ((st.now.size : Int) - 1) = ((st.now.size - 1 : Nat) : Int) := by rw [wrap_i64 (by omega) (by omega)]; omega
      have i4 : (1 : Int) ≤ (st.now.size : Int) - 1 := by omega
      have i5 : (st.now.size : Int) - 1 ≤ (st.now.size : Int) := by omega
      have HSP := Lib.hid (rfStep_ok R s st w1 hs HG0.out.le HR1.out)
      clear h1 h2 h3 h4 h5 h34 hz hd hd' hhd hc hc2 hq hcq h5' h2s hsh
      go_enter Tryd.func80, Tryd.ntmps80
      go_wp2_with fail
      clear hw1
      refine HN1.out.mono ?_
      rintro e w2 ⟨rfl, rfl⟩
      clear HN1
      go_wp2_with fail
      refine HN2.out.mono ?_
      rintro e w2 ⟨rfl, rfl⟩
      clear HN2
      go_wp2_with fail
      refine HN3.out.mono ?_
      rintro e w2 ⟨rfl, rfl⟩
      clear HN3
      go_wp2_with fail
      refine HN4.out.mono ?_
      rintro e w2 ⟨rfl, rfl⟩
      clear HN4
      go_wp2_with fail
      refine HN5.out.mono ?_
      rintro e w2 ⟨rfl, rfl⟩
      clear HN5
      go_wp2_with fail
      refine HSP.out.mono ?_
      rintro e w2 ⟨hk2, rfl, hr2⟩
      have HK2 := Lib.hid (HK1.out.trans hk2)
      have HA2 := Lib.hid (HA1.out.keepR hk2 (by omega))
      have HR2 := Lib.hid hr2
      clear HSP hk2 hr2 x2 x3 x4
      have o0 := HA2.out.cell (j := 0) (by simp)
      have o1 := HA2.out.cell (j := 1) (by simp)
      have o2 := HA2.out.cell (j := 2) (by simp)
      have o3 := HA2.out.cell (j := 3) (by simp)
      simp only [List.getElem_cons_zero, List.getElem_cons_succ] at o0 o1 o2 o3
      have f0 := HA2.out.frozen 0
      have f1 := HA2.out.frozen 1
      have f2 := HA2.out.frozen 2
      have f3 := HA2.out.frozen 3
      go_wp2_with fail
      exact rf_ret (t := some (.leaf 4 0 (st.now.extract 1 (st.now.size - 1)))) rfl rfl HK2.out hRw HR2.out HA2.out rfl (px_leaf HAT.out HST.out HG0.out.pos)
    have h6' : ¬ (0 < st.now.size ∧ st.now.data.toList.headD 0 = 39) := fun h => hq (by rw [← hhd]; exact h.2)
    have HAT := Lib.hid (at7 (s := s) (f := 0) h1 h2 h34 h5 h5' h6')
    have d39 : (((st.now[0]'h0).toNat : Int) == 39) = false := by
      rw [beq_eq_false_iff_ne]
      intro h
      exact hq (UInt8.toNat_inj.1 (by have : (39 : UInt8).toNat = 39 := rfl; omega))
    have hdd : (¬ 48 ≤ ((st.now[0]'h0).toNat : Int)) ∨ (48 ≤ ((st.now[0]'h0).toNat : Int) ∧ ¬ ((st.now[0]'h0).toNat : Int) ≤ 57) := by omega
    have HNM := Lib.hid (rfName_ok R s st w1 hs HG0.out HR1.out)
    clear h1 h2 h3 h4 h5 h34 hz hd hd' hhd hc hc2 hq h5' h6'
    rcases hdd with d1 | ⟨d1, d2⟩
    all_goals
      go_enter Tryd.func80, Tryd.ntmps80
      go_wp2_with fail
      clear hw1
      refine HN1.out.mono ?_
      rintro e w2 ⟨rfl, rfl⟩
      clear HN1
      go_wp2_with fail
      refine HN2.out.mono ?_
      rintro e w2 ⟨rfl, rfl⟩
      clear HN2
      go_wp2_with fail
      refine HN3.out.mono ?_
      rintro e w2 ⟨rfl, rfl⟩
      clear HN3
      go_wp2_with fail
      refine HN4.out.mono ?_
      rintro e w2 ⟨rfl, rfl⟩
      clear HN4
      go_wp2_with fail
      refine HN5.out.mono ?_
      rintro e w2 ⟨rfl, rfl⟩
      clear HN5
      go_wp2_with fail
      refine HNM.out.mono ?_
      rintro e w2 ⟨y, ⟨hk2, rfl, hr2⟩, hy⟩
      have HK2 := Lib.hid (HK1.out.trans hk2)
      have HA2 := Lib.hid (HA1.out.keepR hk2 (by omega))
      have HR2 := Lib.hid hr2
      have HY := Lib.hid hy
      clear HNM hk2 hr2 x2 x3 x4 hy
      have o0 := HA2.out.cell (j := 0) (by simp)
      have o1 := HA2.out.cell (j := 1) (by simp)
      have o2 := HA2.out.cell (j := 2) (by simp)
      have o3 := HA2.out.cell (j := 3) (by simp)
      simp only [List.getElem_cons_zero, List.getElem_cons_succ] at o0 o1 o2 o3
      have f0 := HA2.out.frozen 0
      have f1 := HA2.out.frozen 1
      have f2 := HA2.out.frozen 2
      have f3 := HA2.out.frozen 3
      go_wp2_with fail
      refine rf_ret (t := some (.leaf 5 0 y)) rfl rfl HK2.out hRw HR2.out HA2.out rfl ?_
      have hat := HAT.out
      by_cases hnm : namedG st.now = true
      · obtain rfl := HY.out hnm
        exact px_leaf hat (fun st1 h => by rw [if_pos hnm] at h; exact HST.out st1 h) HG0.out.pos
      · rw [if_neg hnm] at hat ⊢
        exact ⟨1, _, hat, rfl⟩
end Go.Proofs.YtkmgbkcpjlilpaaDoor
