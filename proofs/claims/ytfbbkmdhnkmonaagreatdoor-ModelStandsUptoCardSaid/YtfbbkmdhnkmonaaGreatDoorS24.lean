/- package guard: atom. -/
import Derived.Test.YtfbbkmdhnkmonaaGreatDoorS23
namespace Go.Proofs.YtfbbkmdhnkmonaaGreatDoor
open Go.RowKit

theorem need_gs {s x : ByteArray} {st st' : GSt} (hi : st.i ≤ s.size) (h : needB s x st = .ok st') : GS s st' ∧ st.i ≤ st'.pos := by
  unfold needB at h
  split at h
  · exact step_gs hi h
  · cases h
theorem name_gs {s : ByteArray} {st st' : GSt} (hi : st.i ≤ s.size) (h : (if namedG st.now = true then stepB s st.i else .error st.pos) = .ok st') : GS s st' ∧ st.i ≤ st'.pos := by
  split at h
  · exact step_gs hi h
  · cases h
theorem nameB_eq (s : ByteArray) (st : GSt) (k : ByteArray → GSt → PR) : nameB s st k = thenS (if namedG st.now = true then stepB s st.i else .error st.pos) (k st.now) := by
  unfold nameB
  split <;> rfl
theorem tol_ne {a x : ByteArray} {l : List UInt8} (h : ¬ a = x) (hl : x.data.toList = l) : ¬ a.toList = l := fun e => by
  rw [Lib.toList_data, ← hl] at e
  exact h (ByteArray.ext (Array.ext' e))
/-- a token that begins with a digit, with a quote -/
theorem tok_digits {now : ByteArray} (h : TokOk now) (h0 : 0 < now.size) (hd : digitB (now.data.toList.headD 0) = true) : now.data.toList ≠ [] ∧ now.data.toList.all digitB = true ∧ spell 0 now.data.toList ≤ 9223372036854775807 := by
  rcases h with h | ⟨l, hl, hlo⟩
  · omega
  · match l, hl, hlo with
    | [], _, hlo => exact absurd hlo (by decide)
    | c :: r, hl, hlo =>
      have hc : digitB c = true := by
        rw [hl] at hd
        obtain ⟨m, hm⟩ : ∃ m, longB (c :: r) = m + 1 := ⟨longB (c :: r) - 1, by omega⟩
        rw [hm] at hd
        exact hd
      have hcd : 48 ≤ c.toNat ∧ c.toNat ≤ 57 := by simpa [digitB] using hc
      rw [hl]
      by_cases hs : signsB.contains c = true
      · have h1 : longB (c :: r) = 1 := by rw [longB, if_pos hs]
        rw [h1]
        refine ⟨by simp, by simp [hc], ?_⟩
        show 0 * 10 + (c.toNat - 48) ≤ _
        omega
      · have h48 : c.toNat ≠ 48 := by
          intro h
          have : c = 48 := UInt8.toNat_inj.1 h
          subst this
          exact hs (by decide)
        rw [longB, if_neg hs, if_pos (by omega)] at hlo ⊢
        split at hlo
        · rename_i hsp
          rw [if_pos hsp]
          have ht : (c :: r).take ((r.takeWhile digitB).length + 1) = c :: r.takeWhile digitB := by rw [List.take_succ_cons, take_takeWhile]
          rw [ht]
          exact ⟨by simp, by rw [List.all_cons, hc, Bool.true_and]; exact List.all_takeWhile, hsp⟩
        · omega
theorem tok_quote {now : ByteArray} (h : TokOk now) (h0 : 0 < now.size) (hd : now.data.toList.headD 0 = 39) : 2 ≤ now.size := by
  rcases h with h | ⟨l, hl, hlo⟩
  · omega
  · match l, hl, hlo with
    | [], _, hlo => exact absurd hlo (by decide)
    | c :: r, hl, hlo =>
      have hc : c = 39 := by
        rw [hl] at hd
        obtain ⟨m, hm⟩ : ∃ m, longB (c :: r) = m + 1 := ⟨longB (c :: r) - 1, by omega⟩
        rw [hm] at hd
        exact hd
      subst hc
      have hlen := congrArg List.length hl
      rw [ba_len, List.length_take] at hlen
      have hle := longB_le (39 :: r)
      rw [longB, if_neg (by decide), if_neg (by decide), if_pos rfl] at hlo hlen hle
      split at hlo
      · rename_i hx
        rw [if_pos hx] at hlen hle
        omega
      · omega
theorem leaf_ret {R : Nat} {w W : World} {s : ByteArray} {st st2 : GSt} {k : Nat} {n : Int} {x : ByteArray} {fu : Nat} {a : Act} {c0 c1 c2 c3 : Value} (h2 : a.tmps.getD 2 undef = .pointer (some ⟨w.heap.size, 0, none⟩)) (hd : a.defers = []) (hk : KeepR R w W) (hRw : R < w.heap.size)
    (hr : RdIs R W s st2) (ho : Arr W w.heap.size 80 [c0, c1, c2, c3]) (hg : GS s st2) (hp : st.pos ≤ st2.pos) (hf : pars s fu .atom st = some (.ok (.leaf k n x, st2))) :
    bodyPost Tryz.prog Tryz.f197 (PEnd R s (fun fu => pars s fu .atom st) st w) .ret a ((((W.setCell ⟨w.heap.size, 0, none⟩ (.int .u8 k)).setCell ⟨w.heap.size, 1, none⟩ (.int .i64 n)).setCell ⟨w.heap.size, 2, none⟩ (.string x)).setCell ⟨w.heap.size, 3, none⟩ (.slice none 0 0)) := by
  obtain ⟨k1, k2, k3, k4⟩ := store4 (d0 := .int .u8 k) (d1 := .int .i64 n) (d2 := .string x) (d3 := .slice none 0 0) hk (Nat.le_refl _) (by omega) hr (g := .leaf k n x) (cs := [.int .u8 k, .int .i64 n, .string x, .slice none 0 0]) (X := fun k => k < w.heap.size + 1) (Nat.lt_succ_self _) rfl ho
  refine ret_guard (fn := Tryz.f197) rfl (g := w.heap.size) (cs := [.int .u8 k, .int .i64 n, .string x, .slice none 0 0]) h2 hd rfl k4 ?_
  exact ⟨k1, fu, _, hf, ⟨_, rfl, rfl⟩, k2, hg, hp⟩

/-! The cases of atomL. -/
section
variable {s : ByteArray} {st : GSt} {f : Nat}
theorem at1 (h1 : st.now = trueS) : pars s (f + 1) .atom st = thenS (stepB s st.i) fun st1 => some (.ok (.leaf 1 0 ⟨#[]⟩, st1)) := by rw [pars, atomL, if_pos h1]
theorem at2 (h1 : ¬ st.now = trueS) (h2 : st.now = falseS) : pars s (f + 1) .atom st = thenS (stepB s st.i) fun st1 => some (.ok (.leaf 2 0 ⟨#[]⟩, st1)) := by rw [pars, atomL, if_neg h1, if_pos h2]
theorem at3 (h1 : ¬ st.now = trueS) (h2 : ¬ st.now = falseS) (h3 : st.now = openS ∨ st.now = doneS) : pars s (f + 1) .atom st = thenS (stepB s st.i) fun st1 => thenS (needB s lparS st1) fun st2 => thenS (if namedG st2.now = true then stepB s st2.i else .error st2.pos) fun st3 => thenS (needB s rparS st3) fun st4 => some (.ok (.leaf (if st.now = doneS then 7 else 6) 0 st2.now, st4)) := by
  rw [pars, atomL, if_neg h1, if_neg h2, if_pos h3]
  simp only [nameB_eq]
theorem at4 (h1 : ¬ st.now = trueS) (h2 : ¬ st.now = falseS) (h3 : ¬ (st.now = openS ∨ st.now = doneS)) (h4 : st.now = lparS) : pars s (f + 1) .atom st = thenS (stepB s st.i) fun st1 => thenP (pars s f .guard st1) fun g st2 => thenS (needB s rparS st2) fun st3 => some (.ok (g, st3)) := by
  rw [pars, atomL, if_neg h1, if_neg h2, if_neg h3, if_pos h4]
theorem at5 (h1 : ¬ st.now = trueS) (h2 : ¬ st.now = falseS) (h3 : ¬ (st.now = openS ∨ st.now = doneS)) (h4 : ¬ st.now = lparS) (h5 : 0 < st.now.size ∧ digitB (st.now.data.toList.headD 0)) : pars s (f + 1) .atom st = thenS (stepB s st.i) fun st1 => some (.ok (.leaf 3 (spell 0 st.now.data.toList) ⟨#[]⟩, st1)) := by
  rw [pars, atomL, if_neg h1, if_neg h2, if_neg h3, if_neg h4, if_pos h5]
theorem at6 (h1 : ¬ st.now = trueS) (h2 : ¬ st.now = falseS) (h3 : ¬ (st.now = openS ∨ st.now = doneS)) (h4 : ¬ st.now = lparS) (h5 : ¬ (0 < st.now.size ∧ digitB (st.now.data.toList.headD 0))) (h6 : 0 < st.now.size ∧ st.now.data.toList.headD 0 = 39) : pars s (f + 1) .atom st = thenS (stepB s st.i) fun st1 => some (.ok (.leaf 4 0 (st.now.extract 1 (st.now.size - 1)), st1)) := by
  rw [pars, atomL, if_neg h1, if_neg h2, if_neg h3, if_neg h4, if_neg h5, if_pos h6]
theorem at7 (h1 : ¬ st.now = trueS) (h2 : ¬ st.now = falseS) (h3 : ¬ (st.now = openS ∨ st.now = doneS)) (h4 : ¬ st.now = lparS) (h5 : ¬ (0 < st.now.size ∧ digitB (st.now.data.toList.headD 0))) (h6 : ¬ (0 < st.now.size ∧ st.now.data.toList.headD 0 = 39)) : pars s (f + 1) .atom st = thenS (if namedG st.now = true then stepB s st.i else .error st.pos) fun st1 => some (.ok (.leaf 5 0 st.now, st1)) := by
  rw [pars, atomL, if_neg h1, if_neg h2, if_neg h3, if_neg h4, if_neg h5, if_neg h6, nameB_eq]
end

set_option maxHeartbeats 8000000 in
set_option maxRecDepth 100000 in
theorem atom_sub {R : Nat} {s : ByteArray} {N : Nat} (hs : s.size ≤ 17000) (hguard : ∀ N', N' < N → SubC R s N' 80 .guard) : SubC R s N 197 .atom := by
  intro st w hM hg h hv
  have hRw : R < w.heap.size := Arr.lt h
  obtain ⟨w1, hw1⟩ : ∃ w1, w.alloc (.cells #[.int .u8 0, .int .i64 0, .string ⟨#[]⟩, .slice none 0 0] 80) = w1 := ⟨_, rfl⟩
  have HA1 : Hid (Arr w1 w.heap.size 80 zeroG) := hw1 ▸ Arr.new w zeroG 80
  have HB1 : Hid (Below w.heap.size w w1) := hw1 ▸ (Below.refl w.heap.size w).alloc (Nat.le_refl _) _
  have HR1 : Hid (RdIs R w1 s st) := hw1 ▸ Arr.alloc h _
  have HV1 := Lib.hid (hv.keep (.of HB1.out))
  have HG0 := Lib.hid hg
  have HGU := Lib.hid hguard
  have hpos := hg.pos
  obtain ⟨x0, x1, x2, x3⟩ := rd_cells HR1.out
  clear hguard h hv hg
  obtain ⟨X, hX⟩ : ∃ X, stepB s st.i = X := ⟨_, rfl⟩
  have hX0 := hX
  have HSTEP := step_walk R s st w1 hs HG0.out.le HR1.out HV1.out
  rw [hX] at HSTEP
  have HX := Lib.hid hX0
  replace HSTEP := Lib.hid HSTEP
  clear hX hX0
  by_cases ht : st.now = trueS
  · have hIS := is_yes R s st w1 hs HG0.out.le HR1.out HV1.out
    rw [HX.out] at hIS
    rw [ht] at hIS x3
    have HIS := Lib.hid hIS
    have HT := Lib.hid ht
    clear ht hIS
    go_enter Tryz.func197, Tryz.ntmps197
    go_wp2_with fail
    clear hw1
    refine HIS.out.mono ?_
    rintro e w2 ⟨hk2, h2⟩
    have HK2 := Lib.hid ((KeepR.of (R := R) HB1.out).trans hk2)
    have HV2 := Lib.hid (HV1.out.keep hk2)
    have HA2 := Lib.hid (HA1.out.keepR hk2 (by omega))
    clear HIS hk2
    rcases X with a | st2
    · simp only at h2
      subst h2
      exact ⟨rfl, HK2.out, 1, .error a, by show pars s 1 .atom st = _; rw [at1 HT.out, HX.out]; rfl, rfl⟩
    obtain ⟨rfl, hr2⟩ := h2
    obtain ⟨hg2, hp2⟩ := step_gs HG0.out.le HX.out
    have HR2 := Lib.hid hr2
    have HG2 := Lib.hid hg2
    clear hr2 hg2 x0 x1 x2 x3
    have o0 := HA2.out.cell (j := 0) (by simp)
    have o1 := HA2.out.cell (j := 1) (by simp)
    have o2 := HA2.out.cell (j := 2) (by simp)
    have o3 := HA2.out.cell (j := 3) (by simp)
    have f0 := HA2.out.frozen 0
    have f1 := HA2.out.frozen 1
    have f2 := HA2.out.frozen 2
    have f3 := HA2.out.frozen 3
    simp only [List.getElem_cons_zero, List.getElem_cons_succ] at o0 o1 o2 o3
    go_wp2_with fail
    exact leaf_ret (fu := 1) rfl rfl HK2.out hRw HR2.out HA2.out HG2.out (by omega) (by rw [at1 HT.out, HX.out]; rfl)
  have h1 : ¬ st.now = trueS := ht
  clear ht
  by_cases h2 : st.now = falseS
  · have hIS := is_yes R s st w1 hs HG0.out.le HR1.out HV1.out
    rw [HX.out] at hIS
    have HN1 := Lib.hid (is_no R s st trueS w1 h1 HR1.out)
    rw [h2] at hIS x3
    have HIS := Lib.hid hIS
    have H1 := Lib.hid h1
    have H2 := Lib.hid h2
    clear h1 h2 hIS
    go_enter Tryz.func197, Tryz.ntmps197
    go_wp2_with fail
    clear hw1
    refine HN1.out.mono ?_
    rintro e w2 ⟨rfl, rfl⟩
    clear HN1
    go_wp2_with fail
    refine HIS.out.mono ?_
    rintro e w2 ⟨hk2, h2⟩
    have HK2 := Lib.hid ((KeepR.of (R := R) HB1.out).trans hk2)
    have HV2 := Lib.hid (HV1.out.keep hk2)
    have HA2 := Lib.hid (HA1.out.keepR hk2 (by omega))
    clear HIS hk2
    rcases X with a | st2
    · simp only at h2
      subst h2
      exact ⟨rfl, HK2.out, 1, .error a, by show pars s 1 .atom st = _; rw [at2 H1.out H2.out, HX.out]; rfl, rfl⟩
    obtain ⟨rfl, hr2⟩ := h2
    obtain ⟨hg2, hp2⟩ := step_gs HG0.out.le HX.out
    have HR2 := Lib.hid hr2
    have HG2 := Lib.hid hg2
    clear hr2 hg2 x0 x1 x2 x3
    have o0 := HA2.out.cell (j := 0) (by simp)
    have o1 := HA2.out.cell (j := 1) (by simp)
    have o2 := HA2.out.cell (j := 2) (by simp)
    have o3 := HA2.out.cell (j := 3) (by simp)
    have f0 := HA2.out.frozen 0
    have f1 := HA2.out.frozen 1
    have f2 := HA2.out.frozen 2
    have f3 := HA2.out.frozen 3
    simp only [List.getElem_cons_zero, List.getElem_cons_succ] at o0 o1 o2 o3
    go_wp2_with fail
    exact leaf_ret (fu := 1) rfl rfl HK2.out hRw HR2.out HA2.out HG2.out (by omega) (by rw [at2 H1.out H2.out, HX.out]; rfl)
  by_cases h3 : st.now = openS
  · have HN1 := Lib.hid (is_no R s st trueS w1 h1 HR1.out)
    have HN2 := Lib.hid (is_no R s st falseS w1 h2 HR1.out)
    have e1 : ((openS : ByteArray).toList == (openS : ByteArray).toList) = true := by rw [ba_eq]; decide
    have e2 : ((openS : ByteArray).toList == (doneS : ByteArray).toList) = false := by rw [ba_eq]; decide
    rw [h3] at x3
    have hAT : ∀ f, pars s (f + 1) .atom st = _ := fun f => at3 h1 h2 (.inl h3)
    have HAT := Lib.hid hAT
    have HK : Hid ((if st.now = doneS then 7 else 6) = 6) := by show _ = _; rw [h3]; decide
    clear h1 h2 h3 hAT
    go_enter Tryz.func197, Tryz.ntmps197
    go_wp2_with fail
    clear hw1
    refine HN1.out.mono ?_
    rintro e w2 ⟨rfl, rfl⟩
    clear HN1
    go_wp2_with fail
    refine HN2.out.mono ?_
    rintro e w2 ⟨rfl, rfl⟩
    clear HN2
    go_wp2_with fail
    refine HSTEP.out.mono ?_
    rintro e w2 ⟨hk2, h2⟩
    have HK2 := Lib.hid ((KeepR.of (R := R) HB1.out).trans hk2)
    have HV2 := Lib.hid (HV1.out.keep hk2)
    have HA2 := Lib.hid (HA1.out.keepR hk2 (by omega))
    clear HSTEP hk2
    rcases X with a | st2
    · simp only at h2
      subst h2
      exact ⟨rfl, HK2.out, 1, .error a, by show pars s 1 .atom st = _; rw [HAT.out, HX.out]; rfl, rfl⟩
    obtain ⟨rfl, hr2⟩ := h2
    obtain ⟨hg2, hp2⟩ := step_gs HG0.out.le HX.out
    have HR2 := Lib.hid hr2
    have HG2 := Lib.hid hg2
    clear hr2 hg2 x0 x1 x2 x3
    obtain ⟨X2, hX2⟩ : ∃ X2, needB s lparS st2 = X2 := ⟨_, rfl⟩
    have hND := need_walk R s st2 lparS w2 hs HG2.out.le HR2.out HV2.out
    rw [hX2] at hND
    have HX2 := Lib.hid hX2
    have HND := Lib.hid hND
    clear hX2 hND
    go_wp2_with fail
    refine HND.out.mono ?_
    rintro e w3 ⟨hk3, h3⟩
    have HK3 := Lib.hid (HK2.out.trans hk3)
    have HV3 := Lib.hid (HV2.out.keep hk3)
    have HA3 := Lib.hid (HA2.out.keepR hk3 (by omega))
    clear HND hk3
    rcases X2 with a | st3
    · simp only at h3
      subst h3
      exact ⟨rfl, HK3.out, 1, .error a, by show pars s 1 .atom st = _; rw [HAT.out, HX.out]; simp only [thenS]; rw [HX2.out], rfl⟩
    obtain ⟨rfl, hr3⟩ := h3
    obtain ⟨hg3, hp3⟩ := need_gs HG2.out.le HX2.out
    have hps2 := HG2.out.pos
    have HR3 := Lib.hid hr3
    have HG3 := Lib.hid hg3
    obtain ⟨X3, hX3⟩ : ∃ X3, (if namedG st3.now = true then stepB s st3.i else .error st3.pos) = X3 := ⟨_, rfl⟩
    have hND := name_walk R s st3 w3 hs hg3.le hr3 HV3.out
    rw [hX3] at hND
    have HX3 := Lib.hid hX3
    have HND := Lib.hid hND
    clear hX3 hND hr3 hg3
    go_wp2_with fail
    refine HND.out.mono ?_
    rintro e w4 ⟨hk4, h4⟩
    have HK4 := Lib.hid (HK3.out.trans hk4)
    have HV4 := Lib.hid (HV3.out.keep hk4)
    have HA4 := Lib.hid (HA3.out.keepR hk4 (by omega))
    clear HND hk4
    rcases X3 with a | st4
    · simp only at h4
      subst h4
      exact ⟨rfl, HK4.out, 1, .error a, by show pars s 1 .atom st = _; rw [HAT.out, HX.out]; simp only [thenS]; rw [HX2.out]; simp only; rw [HX3.out], rfl⟩
    obtain ⟨rfl, hr4⟩ := h4
    obtain ⟨hg4, hp4⟩ := name_gs HG3.out.le HX3.out
    have hps3 := HG3.out.pos
    have HR4 := Lib.hid hr4
    have HG4 := Lib.hid hg4
    clear hr4 hg4
    go_upto_region 12 with fail
    have HC5 := Lib.hid (Arr.new w4 [.int .u8 6, .int .i64 0, .string st3.now, .slice none 0 0] 80)
    have HA5 := Lib.hid (HA4.out.alloc (.cells #[.int .u8 6, .int .i64 0, .string st3.now, .slice none 0 0] 80))
    have HR5 := Lib.hid (Arr.alloc HR4.out (.cells #[.int .u8 6, .int .i64 0, .string st3.now, .slice none 0 0] 80))
    have HK5 := Lib.hid (HK4.out.alloc (.cells #[.int .u8 6, .int .i64 0, .string st3.now, .slice none 0 0] 80))
    have HV5 := Lib.hid (HV4.out.keep (R := R) (.of ((Below.refl _ _).alloc (Nat.le_refl _) (.cells #[.int .u8 6, .int .i64 0, .string st3.now, .slice none 0 0] 80))))
    generalize w4.alloc (.cells #[.int .u8 6, .int .i64 0, .string st3.now, .slice none 0 0] 80) = w5 at *
    have hgb : w.heap.size < w4.heap.size := HA4.out.lt
    obtain ⟨X4, hX4⟩ : ∃ X4, needB s rparS st4 = X4 := ⟨_, rfl⟩
    have hND := need_walk R s st4 rparS w5 hs HG4.out.le HR5.out HV5.out
    rw [hX4] at hND
    have HX4 := Lib.hid hX4
    have HND := Lib.hid hND
    clear hX4 hND
    go_wp2_with fail
    refine HND.out.mono ?_
    rintro e w6 ⟨hk6, h6⟩
    have HK6 := Lib.hid (HK5.out.trans hk6)
    have HA6 := Lib.hid (HA5.out.keepR hk6 (by omega))
    have HC6 := Lib.hid (HC5.out.keepR hk6 (by omega))
    clear HND hk6
    rcases X4 with a | st5
    · simp only at h6
      subst h6
      exact ⟨rfl, HK6.out, 1, .error a, by show pars s 1 .atom st = _; rw [HAT.out, HX.out]; simp only [thenS]; rw [HX2.out]; simp only; rw [HX3.out]; simp only; rw [HX4.out], rfl⟩
    obtain ⟨rfl, hr6⟩ := h6
    obtain ⟨hg6, hp6⟩ := need_gs HG4.out.le HX4.out
    have hps4 := HG4.out.pos
    have HR6 := Lib.hid hr6
    have HG6 := Lib.hid hg6
    have y0 := HC6.out.cell (j := 0) (by simp)
    have y1 := HC6.out.cell (j := 1) (by simp)
    have y2 := HC6.out.cell (j := 2) (by simp)
    have y3 := HC6.out.cell (j := 3) (by simp)
    simp only [List.getElem_cons_zero, List.getElem_cons_succ] at y0 y1 y2 y3
    clear hr6 hg6
    have o0 := HA6.out.cell (j := 0) (by simp)
    have o1 := HA6.out.cell (j := 1) (by simp)
    have o2 := HA6.out.cell (j := 2) (by simp)
    have o3 := HA6.out.cell (j := 3) (by simp)
    have f0 := HA6.out.frozen 0
    have f1 := HA6.out.frozen 1
    have f2 := HA6.out.frozen 2
    have f3 := HA6.out.frozen 3
    simp only [List.getElem_cons_zero, List.getElem_cons_succ] at o0 o1 o2 o3
    go_wp2_with fail
    exact leaf_ret (fu := 1) rfl rfl HK6.out hRw HR6.out HA6.out HG6.out (by omega) (by rw [HAT.out, HX.out]; simp only [thenS]; rw [HX2.out]; simp only; rw [HX3.out]; simp only; rw [HX4.out]; simp only; rw [HK.out])
  have hno := h3
  clear h3
  by_cases h3 : st.now = doneS
  · have HN1 := Lib.hid (is_no R s st trueS w1 h1 HR1.out)
    have HN2 := Lib.hid (is_no R s st falseS w1 h2 HR1.out)
    have e1 : ((doneS : ByteArray).toList == (openS : ByteArray).toList) = false := by rw [ba_eq]; decide
    have e2 : ((doneS : ByteArray).toList == (doneS : ByteArray).toList) = true := by rw [ba_eq]; decide
    rw [h3] at x3
    have hAT : ∀ f, pars s (f + 1) .atom st = _ := fun f => at3 h1 h2 (.inr h3)
    have HAT := Lib.hid hAT
    have HK : Hid ((if st.now = doneS then 7 else 6) = 7) := by show _ = _; rw [h3]; decide
    clear h1 h2 h3 hAT
    go_enter Tryz.func197, Tryz.ntmps197
    go_wp2_with fail
    clear hw1
    refine HN1.out.mono ?_
    rintro e w2 ⟨rfl, rfl⟩
    clear HN1
    go_wp2_with fail
    refine HN2.out.mono ?_
    rintro e w2 ⟨rfl, rfl⟩
    clear HN2
    go_wp2_with fail
    refine HSTEP.out.mono ?_
    rintro e w2 ⟨hk2, h2⟩
    have HK2 := Lib.hid ((KeepR.of (R := R) HB1.out).trans hk2)
    have HV2 := Lib.hid (HV1.out.keep hk2)
    have HA2 := Lib.hid (HA1.out.keepR hk2 (by omega))
    clear HSTEP hk2
    rcases X with a | st2
    · simp only at h2
      subst h2
      exact ⟨rfl, HK2.out, 1, .error a, by show pars s 1 .atom st = _; rw [HAT.out, HX.out]; rfl, rfl⟩
    obtain ⟨rfl, hr2⟩ := h2
    obtain ⟨hg2, hp2⟩ := step_gs HG0.out.le HX.out
    have HR2 := Lib.hid hr2
    have HG2 := Lib.hid hg2
    clear hr2 hg2 x0 x1 x2 x3
    obtain ⟨X2, hX2⟩ : ∃ X2, needB s lparS st2 = X2 := ⟨_, rfl⟩
    have hND := need_walk R s st2 lparS w2 hs HG2.out.le HR2.out HV2.out
    rw [hX2] at hND
    have HX2 := Lib.hid hX2
    have HND := Lib.hid hND
    clear hX2 hND
    go_wp2_with fail
    refine HND.out.mono ?_
    rintro e w3 ⟨hk3, h3⟩
    have HK3 := Lib.hid (HK2.out.trans hk3)
    have HV3 := Lib.hid (HV2.out.keep hk3)
    have HA3 := Lib.hid (HA2.out.keepR hk3 (by omega))
    clear HND hk3
    rcases X2 with a | st3
    · simp only at h3
      subst h3
      exact ⟨rfl, HK3.out, 1, .error a, by show pars s 1 .atom st = _; rw [HAT.out, HX.out]; simp only [thenS]; rw [HX2.out], rfl⟩
    obtain ⟨rfl, hr3⟩ := h3
    obtain ⟨hg3, hp3⟩ := need_gs HG2.out.le HX2.out
    have hps2 := HG2.out.pos
    have HR3 := Lib.hid hr3
    have HG3 := Lib.hid hg3
    obtain ⟨X3, hX3⟩ : ∃ X3, (if namedG st3.now = true then stepB s st3.i else .error st3.pos) = X3 := ⟨_, rfl⟩
    have hND := name_walk R s st3 w3 hs hg3.le hr3 HV3.out
    rw [hX3] at hND
    have HX3 := Lib.hid hX3
    have HND := Lib.hid hND
    clear hX3 hND hr3 hg3
    go_wp2_with fail
    refine HND.out.mono ?_
    rintro e w4 ⟨hk4, h4⟩
    have HK4 := Lib.hid (HK3.out.trans hk4)
    have HV4 := Lib.hid (HV3.out.keep hk4)
    have HA4 := Lib.hid (HA3.out.keepR hk4 (by omega))
    clear HND hk4
    rcases X3 with a | st4
    · simp only at h4
      subst h4
      exact ⟨rfl, HK4.out, 1, .error a, by show pars s 1 .atom st = _; rw [HAT.out, HX.out]; simp only [thenS]; rw [HX2.out]; simp only; rw [HX3.out], rfl⟩
    obtain ⟨rfl, hr4⟩ := h4
    obtain ⟨hg4, hp4⟩ := name_gs HG3.out.le HX3.out
    have hps3 := HG3.out.pos
    have HR4 := Lib.hid hr4
    have HG4 := Lib.hid hg4
    clear hr4 hg4
    go_upto_region 12 with fail
    have HC5 := Lib.hid (Arr.new w4 [.int .u8 7, .int .i64 0, .string st3.now, .slice none 0 0] 80)
    have HA5 := Lib.hid (HA4.out.alloc (.cells #[.int .u8 7, .int .i64 0, .string st3.now, .slice none 0 0] 80))
    have HR5 := Lib.hid (Arr.alloc HR4.out (.cells #[.int .u8 7, .int .i64 0, .string st3.now, .slice none 0 0] 80))
    have HK5 := Lib.hid (HK4.out.alloc (.cells #[.int .u8 7, .int .i64 0, .string st3.now, .slice none 0 0] 80))
    have HV5 := Lib.hid (HV4.out.keep (R := R) (.of ((Below.refl _ _).alloc (Nat.le_refl _) (.cells #[.int .u8 7, .int .i64 0, .string st3.now, .slice none 0 0] 80))))
    generalize w4.alloc (.cells #[.int .u8 7, .int .i64 0, .string st3.now, .slice none 0 0] 80) = w5 at *
    have hgb : w.heap.size < w4.heap.size := HA4.out.lt
    obtain ⟨X4, hX4⟩ : ∃ X4, needB s rparS st4 = X4 := ⟨_, rfl⟩
    have hND := need_walk R s st4 rparS w5 hs HG4.out.le HR5.out HV5.out
    rw [hX4] at hND
    have HX4 := Lib.hid hX4
    have HND := Lib.hid hND
    clear hX4 hND
    go_wp2_with fail
    refine HND.out.mono ?_
    rintro e w6 ⟨hk6, h6⟩
    have HK6 := Lib.hid (HK5.out.trans hk6)
    have HA6 := Lib.hid (HA5.out.keepR hk6 (by omega))
    have HC6 := Lib.hid (HC5.out.keepR hk6 (by omega))
    clear HND hk6
    rcases X4 with a | st5
    · simp only at h6
      subst h6
      exact ⟨rfl, HK6.out, 1, .error a, by show pars s 1 .atom st = _; rw [HAT.out, HX.out]; simp only [thenS]; rw [HX2.out]; simp only; rw [HX3.out]; simp only; rw [HX4.out], rfl⟩
    obtain ⟨rfl, hr6⟩ := h6
    obtain ⟨hg6, hp6⟩ := need_gs HG4.out.le HX4.out
    have hps4 := HG4.out.pos
    have HR6 := Lib.hid hr6
    have HG6 := Lib.hid hg6
    have y0 := HC6.out.cell (j := 0) (by simp)
    have y1 := HC6.out.cell (j := 1) (by simp)
    have y2 := HC6.out.cell (j := 2) (by simp)
    have y3 := HC6.out.cell (j := 3) (by simp)
    simp only [List.getElem_cons_zero, List.getElem_cons_succ] at y0 y1 y2 y3
    clear hr6 hg6
    have o0 := HA6.out.cell (j := 0) (by simp)
    have o1 := HA6.out.cell (j := 1) (by simp)
    have o2 := HA6.out.cell (j := 2) (by simp)
    have o3 := HA6.out.cell (j := 3) (by simp)
    have f0 := HA6.out.frozen 0
    have f1 := HA6.out.frozen 1
    have f2 := HA6.out.frozen 2
    have f3 := HA6.out.frozen 3
    simp only [List.getElem_cons_zero, List.getElem_cons_succ] at o0 o1 o2 o3
    go_wp2_with fail
    exact leaf_ret (fu := 1) rfl rfl HK6.out hRw HR6.out HA6.out HG6.out (by omega) (by rw [HAT.out, HX.out]; simp only [thenS]; rw [HX2.out]; simp only; rw [HX3.out]; simp only; rw [HX4.out]; simp only; rw [HK.out])
  have hnd := h3
  clear h3
  by_cases h4 : st.now = lparS
  · have HN1 := Lib.hid (is_no R s st trueS w1 h1 HR1.out)
    have HN2 := Lib.hid (is_no R s st falseS w1 h2 HR1.out)
    have e1 : ((lparS : ByteArray).toList == (openS : ByteArray).toList) = false := by rw [ba_eq]; decide
    have e2 : ((lparS : ByteArray).toList == (doneS : ByteArray).toList) = false := by rw [ba_eq]; decide
    have hIS := is_yes R s st w1 hs HG0.out.le HR1.out HV1.out
    rw [HX.out] at hIS
    rw [h4] at hIS x3
    have HIS := Lib.hid hIS
    have hlt : st.pos < st.i := by rcases HG0.out.adv with h | h; rw [h4] at h; cases h; exact h
    have hAT : ∀ f, pars s (f + 1) .atom st = _ := fun f => at4 h1 h2 (fun h => h.elim hno hnd) h4
    have HAT := Lib.hid hAT
    clear h1 h2 h4 hno hnd hAT hIS
    go_enter Tryz.func197, Tryz.ntmps197
    go_wp2_with fail
    clear hw1
    refine HN1.out.mono ?_
    rintro e w2 ⟨rfl, rfl⟩
    clear HN1
    go_wp2_with fail
    refine HN2.out.mono ?_
    rintro e w2 ⟨rfl, rfl⟩
    clear HN2
    go_wp2_with fail
    refine HIS.out.mono ?_
    rintro e w2 ⟨hk2, h2⟩
    have HK2 := Lib.hid ((KeepR.of (R := R) HB1.out).trans hk2)
    have HV2 := Lib.hid (HV1.out.keep hk2)
    have HA2 := Lib.hid (HA1.out.keepR hk2 (by omega))
    clear HIS hk2
    rcases X with a | st2
    · simp only at h2
      subst h2
      exact ⟨rfl, HK2.out, 1, .error a, by show pars s 1 .atom st = _; rw [HAT.out, HX.out]; rfl, rfl⟩
    obtain ⟨rfl, hr2⟩ := h2
    obtain ⟨hg2, hp2⟩ := step_gs HG0.out.le HX.out
    have HR2 := Lib.hid hr2
    have HG2 := Lib.hid hg2
    clear hr2 hg2 x0 x1 x2 x3
    have hps2 := HG2.out.pos
    have HND := Lib.hid (HGU.out (s.size - st.pos) hM st2 w2 (by have := HG2.out.le; have := HG0.out.le; omega) HG2.out HR2.out HV2.out)
    go_wp2_with fail
    refine HND.out.mono ?_
    rintro e w3 ⟨hk3, fu, r3, hr3, h3⟩
    replace hr3 : pars s fu .guard st2 = some r3 := hr3
    have HK3 := Lib.hid (HK2.out.trans hk3)
    have HV3 := Lib.hid (HV2.out.keep hk3)
    have HA3 := Lib.hid (HA2.out.keepR hk3 (by omega))
    clear HND hk3
    rcases r3 with a | gs
    · simp only at h3
      subst h3
      exact ⟨rfl, HK3.out, fu + 1, .error a, by show pars s (fu + 1) .atom st = _; rw [HAT.out, HX.out]; simp only [thenS]; rw [hr3]; rfl, rfl⟩
    obtain ⟨g3, st3⟩ := gs
    obtain ⟨⟨cs3, rfl, hgi3⟩, hr4, hg4, hpos4⟩ := h3
    have hz2 : w.heap.size < w2.heap.size := HA2.out.lt
    have hz3 : w.heap.size < w3.heap.size := HA3.out.lt
    have hX3 : GIs (fun k => k < w.heap.size + 1) w3 g3 cs3 := hgi3.mono (fun k _ h => by omega)
    have HP3 := Lib.hid hr3
    have HG4 := Lib.hid hg4
    obtain ⟨q1, m1, z1, b1, l2, c2, rfl⟩ := hgi3.four
    have hb3 := (Below.refl w3.heap.size w3).alloc (Nat.le_refl _) (.cells #[.int .u8 q1, .int .i64 m1, .string z1, .slice b1 l2 c2] 80)
    have HC5 := Lib.hid (Arr.new w3 [.int .u8 q1, .int .i64 m1, .string z1, .slice b1 l2 c2] 80)
    have HA5 := Lib.hid (HA3.out.alloc (.cells #[.int .u8 q1, .int .i64 m1, .string z1, .slice b1 l2 c2] 80))
    have HR5 := Lib.hid (Arr.alloc hr4 (.cells #[.int .u8 q1, .int .i64 m1, .string z1, .slice b1 l2 c2] 80))
    have HK5 := Lib.hid (HK3.out.next hb3)
    have HV5 := Lib.hid (HV3.out.keep (R := R) (.of hb3))
    have HX5 := Lib.hid (hX3.below hb3)
    clear hr3 hgi3 hr4 hg4 hX3 hb3
    go_upto_region 16 with fail
    generalize w3.alloc (.cells #[.int .u8 q1, .int .i64 m1, .string z1, .slice b1 l2 c2] 80) = w5 at *
    obtain ⟨X4, hX4⟩ : ∃ X4, needB s rparS st3 = X4 := ⟨_, rfl⟩
    have hND := need_walk R s st3 rparS w5 hs HG4.out.le HR5.out HV5.out
    rw [hX4] at hND
    have HX4 := Lib.hid hX4
    have HND := Lib.hid hND
    clear hX4 hND
    go_wp2_with fail
    refine HND.out.mono ?_
    rintro e w6 ⟨hk6, h6⟩
    have HK6 := Lib.hid (HK5.out.trans hk6)
    have HA6 := Lib.hid (HA5.out.keepR hk6 (by omega))
    have HC6 := Lib.hid (HC5.out.keepR hk6 (by omega))
    have HX6 := Lib.hid (GIs.keepR (X := fun k => k < w.heap.size + 1) (by show R < w.heap.size + 1; omega) hk6 HX5.out)
    clear HND hk6
    rcases X4 with a | st5
    · simp only at h6
      subst h6
      exact ⟨rfl, HK6.out, fu + 1, .error a, by show pars s (fu + 1) .atom st = _; rw [HAT.out, HX.out]; simp only [thenS]; rw [HP3.out]; simp only [thenP]; rw [HX4.out], rfl⟩
    obtain ⟨rfl, hr6⟩ := h6
    obtain ⟨hg6, hp6⟩ := need_gs HG4.out.le HX4.out
    have hps4 := HG4.out.pos
    have HR6 := Lib.hid hr6
    have HG6 := Lib.hid hg6
    have y0 := HC6.out.cell (j := 0) (by simp)
    have y1 := HC6.out.cell (j := 1) (by simp)
    have y2 := HC6.out.cell (j := 2) (by simp)
    have y3 := HC6.out.cell (j := 3) (by simp)
    simp only [List.getElem_cons_zero, List.getElem_cons_succ] at y0 y1 y2 y3
    clear hr6 hg6
    have o0 := HA6.out.cell (j := 0) (by simp)
    have o1 := HA6.out.cell (j := 1) (by simp)
    have o2 := HA6.out.cell (j := 2) (by simp)
    have o3 := HA6.out.cell (j := 3) (by simp)
    have f0 := HA6.out.frozen 0
    have f1 := HA6.out.frozen 1
    have f2 := HA6.out.frozen 2
    have f3 := HA6.out.frozen 3
    simp only [List.getElem_cons_zero, List.getElem_cons_succ] at o0 o1 o2 o3
    go_wp2_with fail
    obtain ⟨k1, k2, k3, k4⟩ := store4 (d0 := .int .u8 q1) (d1 := .int .i64 m1) (d2 := .string z1) (d3 := .slice b1 l2 c2) HK6.out (Nat.le_refl _) (by omega) HR6.out (X := fun k => k < w.heap.size + 1) (Nat.lt_succ_self _) HX6.out HA6.out
    refine ret_guard (fn := Tryz.f197) rfl (g := w.heap.size) (cs := [.int .u8 q1, .int .i64 m1, .string z1, .slice b1 l2 c2]) rfl rfl rfl k4 ?_
    exact ⟨k1, fu + 1, .ok (g3, st5), by show pars s (fu + 1) .atom st = _; rw [HAT.out, HX.out]; simp only [thenS]; rw [HP3.out]; simp only [thenP]; rw [HX4.out], ⟨_, rfl, k3.mono (fun k _ h => Nat.lt_succ_of_lt h)⟩, k2, HG6.out, by omega⟩
  by_cases h5 : 0 < st.now.size ∧ digitB (st.now.data.toList.headD 0) = true
  · have HN1 := Lib.hid (is_no R s st trueS w1 h1 HR1.out)
    have HN2 := Lib.hid (is_no R s st falseS w1 h2 HR1.out)
    have HN4 := Lib.hid (is_no R s st lparS w1 h4 HR1.out)
    have e1' : ¬ st.now.toList = [111, 112, 101, 110] := tol_ne (x := openS) hno rfl
    have e1 : (st.now.toList == [111, 112, 101, 110]) = false := by rw [beq_eq_false_iff_ne]; exact e1'
    have e2' : ¬ st.now.toList = [100, 111, 110, 101] := tol_ne (x := doneS) hnd rfl
    have e2 : (st.now.toList == [100, 111, 110, 101]) = false := by rw [beq_eq_false_iff_ne]; exact (e2')
    obtain ⟨hd0, hd1⟩ := h5
    have hh5 : 0 < st.now.size ∧ digitB (st.now.data.toList.headD 0) = true := ⟨hd0, hd1⟩
    rw [head_eq hd0] at hd1
    have e0' : ¬ st.now.toList = [] := tol_ne (a := st.now) (x := ⟨#[]⟩) (fun h => by rw [h] at hd0; exact absurd hd0 (by decide)) rfl
    have e0 : (st.now.toList == []) = false := by rw [beq_eq_false_iff_ne]; exact e0'
    have hdd : 48 ≤ st.now[0].toNat ∧ st.now[0].toNat ≤ 57 := by simpa [digitB] using hd1
    have d1 : 48 ≤ (st.now[0].toNat : Int) := by omega
    have d2 : (st.now[0].toNat : Int) ≤ 57 := by omega
    have i0 : (0 : Int) < (st.now.size : Int) := by omega
    have htk := tok_digits HG0.out.tok hh5.1 hh5.2
    have hsz := Nat.le_trans HG0.out.short hs
    have HPI := Lib.hid (fun (W : World) (hv : GW R W) => digits_walk (R := R) st.now W hsz htk.1 htk.2.1 hv)
    have HSP := Lib.hid htk.2.2
    have hAT : ∀ f, pars s (f + 1) .atom st = _ := fun f => at5 h1 h2 (fun h => h.elim hno hnd) h4 hh5
    have HAT := Lib.hid hAT
    clear h1 h2 h4 hno hnd hAT hd1 hh5 hdd htk hsz
    go_enter Tryz.func197, Tryz.ntmps197
    go_wp2_with fail
    clear hw1
    refine HN1.out.mono ?_
    rintro e w2 ⟨rfl, rfl⟩
    clear HN1
    go_wp2_with fail
    refine HN2.out.mono ?_
    rintro e w2 ⟨rfl, rfl⟩
    clear HN2
    go_wp2_with fail
    refine HN4.out.mono ?_
    rintro e w2 ⟨rfl, rfl⟩
    clear HN4
    go_wp2_with fail
    refine HSTEP.out.mono ?_
    rintro e w2 ⟨hk2, h2⟩
    have HK2 := Lib.hid ((KeepR.of (R := R) HB1.out).trans hk2)
    have HV2 := Lib.hid (HV1.out.keep hk2)
    have HA2 := Lib.hid (HA1.out.keepR hk2 (by omega))
    clear HSTEP hk2
    rcases X with a | st2
    · simp only at h2
      subst h2
      exact ⟨rfl, HK2.out, 1, .error a, by show pars s 1 .atom st = _; rw [HAT.out, HX.out]; rfl, rfl⟩
    obtain ⟨rfl, hr2⟩ := h2
    obtain ⟨hg2, hp2⟩ := step_gs HG0.out.le HX.out
    have HR2 := Lib.hid hr2
    have HG2 := Lib.hid hg2
    clear hr2 hg2 x0 x1 x2 x3
    go_wp2_with fail
    refine (HPI.out w2 HV2.out).mono ?_
    rintro e w3 ⟨hb3, v, er, rfl, hv3, -⟩
    obtain ⟨rfl, rfl⟩ := hv3 HSP.out
    have HK3 := Lib.hid (HK2.out.next hb3)
    have HA3 := Lib.hid (HA2.out.below hb3 HA2.out.lt)
    have HR3 := Lib.hid (Arr.below HR2.out hb3 (Arr.lt HR2.out))
    clear hb3 hv3
    have o0 := HA3.out.cell (j := 0) (by simp)
    have o1 := HA3.out.cell (j := 1) (by simp)
    have o2 := HA3.out.cell (j := 2) (by simp)
    have o3 := HA3.out.cell (j := 3) (by simp)
    have f0 := HA3.out.frozen 0
    have f1 := HA3.out.frozen 1
    have f2 := HA3.out.frozen 2
    have f3 := HA3.out.frozen 3
    simp only [List.getElem_cons_zero, List.getElem_cons_succ] at o0 o1 o2 o3
    go_wp2_with fail
    exact leaf_ret (fu := 1) rfl rfl HK3.out hRw HR3.out HA3.out HG2.out (by omega) (by rw [HAT.out, HX.out]; rfl)
  by_cases h6 : 0 < st.now.size ∧ st.now.data.toList.headD 0 = 39
  · have HN1 := Lib.hid (is_no R s st trueS w1 h1 HR1.out)
    have HN2 := Lib.hid (is_no R s st falseS w1 h2 HR1.out)
    have HN4 := Lib.hid (is_no R s st lparS w1 h4 HR1.out)
    have e1' : ¬ st.now.toList = [111, 112, 101, 110] := tol_ne (x := openS) hno rfl
    have e1 : (st.now.toList == [111, 112, 101, 110]) = false := by rw [beq_eq_false_iff_ne]; exact e1'
    have e2' : ¬ st.now.toList = [100, 111, 110, 101] := tol_ne (x := doneS) hnd rfl
    have e2 : (st.now.toList == [100, 111, 110, 101]) = false := by rw [beq_eq_false_iff_ne]; exact (e2')
    obtain ⟨hd0, hd1⟩ := h6
    have hh6 : 0 < st.now.size ∧ st.now.data.toList.headD 0 = 39 := ⟨hd0, hd1⟩
    rw [head_eq hd0] at hd1
    have e0' : ¬ st.now.toList = [] := tol_ne (a := st.now) (x := ⟨#[]⟩) (fun h => by rw [h] at hd0; exact absurd hd0 (by decide)) rfl
    have e0 : (st.now.toList == []) = false := by rw [beq_eq_false_iff_ne]; exact e0'
    have d1 : ¬ 48 ≤ (st.now[0].toNat : Int) := by rw [hd1]; decide
    have d3 : ((st.now[0].toNat : Int) == 39) = true := by rw [hd1]; rfl
    have i0 : (0 : Int) < (st.now.size : Int) := by omega
    have hq2 := tok_quote HG0.out.tok hh6.1 hh6.2
    have hsz := Nat.le_trans HG0.out.short hs
    have wr1 : IntKind.i64.wrap ((st.now.size : Int) - 1) = ((st.now.size - 1 : Nat) : Int) := by rw [wrap_i64 (by omega) (by omega)]; omega
    have i1 : (1 : Int) ≤ ((st.now.size - 1 : Nat) : Int) := by omega
    have i2 : ((st.now.size - 1 : Nat) : Int) ≤ (st.now.size : Int) := by omega
    have hAT : ∀ f, pars s (f + 1) .atom st = _ := fun f => at6 h1 h2 (fun h => h.elim hno hnd) h4 h5 hh6
    have HAT := Lib.hid hAT
    generalize hq9 : st.now.size - 1 = q9 at *
    clear h1 h2 h4 h5 hno hnd hAT hd1 hh6 hq2 hsz hq9
    go_enter Tryz.func197, Tryz.ntmps197
    go_wp2_with fail
    clear hw1
    refine HN1.out.mono ?_
    rintro e w2 ⟨rfl, rfl⟩
    clear HN1
    go_wp2_with fail
    refine HN2.out.mono ?_
    rintro e w2 ⟨rfl, rfl⟩
    clear HN2
    go_wp2_with fail
    refine HN4.out.mono ?_
    rintro e w2 ⟨rfl, rfl⟩
    clear HN4
    go_wp2_with fail
    refine HSTEP.out.mono ?_
    rintro e w2 ⟨hk2, h2⟩
    have HK2 := Lib.hid ((KeepR.of (R := R) HB1.out).trans hk2)
    have HV2 := Lib.hid (HV1.out.keep hk2)
    have HA2 := Lib.hid (HA1.out.keepR hk2 (by omega))
    clear HSTEP hk2
    rcases X with a | st2
    · simp only at h2
      subst h2
      exact ⟨rfl, HK2.out, 1, .error a, by show pars s 1 .atom st = _; rw [HAT.out, HX.out]; rfl, rfl⟩
    obtain ⟨rfl, hr2⟩ := h2
    obtain ⟨hg2, hp2⟩ := step_gs HG0.out.le HX.out
    have HR2 := Lib.hid hr2
    have HG2 := Lib.hid hg2
    clear hr2 hg2 x0 x1 x2 x3
    have o0 := HA2.out.cell (j := 0) (by simp)
    have o1 := HA2.out.cell (j := 1) (by simp)
    have o2 := HA2.out.cell (j := 2) (by simp)
    have o3 := HA2.out.cell (j := 3) (by simp)
    have f0 := HA2.out.frozen 0
    have f1 := HA2.out.frozen 1
    have f2 := HA2.out.frozen 2
    have f3 := HA2.out.frozen 3
    simp only [List.getElem_cons_zero, List.getElem_cons_succ] at o0 o1 o2 o3
    go_wp2_with fail
    exact leaf_ret (fu := 1) rfl rfl HK2.out hRw HR2.out HA2.out HG2.out (by omega) (by rw [HAT.out, HX.out]; rfl)
  by_cases hz : st.now.size = 0
  · have HN1 := Lib.hid (is_no R s st trueS w1 h1 HR1.out)
    have HN2 := Lib.hid (is_no R s st falseS w1 h2 HR1.out)
    have HN4 := Lib.hid (is_no R s st lparS w1 h4 HR1.out)
    have e1' : ¬ st.now.toList = [111, 112, 101, 110] := tol_ne (x := openS) hno rfl
    have e1 : (st.now.toList == [111, 112, 101, 110]) = false := by rw [beq_eq_false_iff_ne]; exact e1'
    have e2' : ¬ st.now.toList = [100, 111, 110, 101] := tol_ne (x := doneS) hnd rfl
    have e2 : (st.now.toList == [100, 111, 110, 101]) = false := by rw [beq_eq_false_iff_ne]; exact (e2')
    have e0' : st.now.toList = [] := by rw [Lib.toList_data]; exact List.eq_nil_of_length_eq_zero (by rw [ba_len]; exact hz)
    have e0 : (st.now.toList == []) = true := by rw [e0']; rfl
    clear hz
    have hAT : ∀ f, pars s (f + 1) .atom st = _ := fun f => at7 h1 h2 (fun h => h.elim hno hnd) h4 h5 h6
    have HAT := Lib.hid hAT
    obtain ⟨X3, hX3⟩ : ∃ X3, (if namedG st.now = true then stepB s st.i else .error st.pos) = X3 := ⟨_, rfl⟩
    have hND := name_walk R s st w1 hs HG0.out.le HR1.out HV1.out
    rw [hX3] at hND
    have HX3 := Lib.hid hX3
    have HND := Lib.hid hND
    clear h1 h2 h4 h5 h6 hno hnd hAT hX3 hND
    go_enter Tryz.func197, Tryz.ntmps197
    go_wp2_with fail
    clear hw1
    refine HN1.out.mono ?_
    rintro e w2 ⟨rfl, rfl⟩
    clear HN1
    go_wp2_with fail
    refine HN2.out.mono ?_
    rintro e w2 ⟨rfl, rfl⟩
    clear HN2
    go_wp2_with fail
    refine HN4.out.mono ?_
    rintro e w2 ⟨rfl, rfl⟩
    clear HN4
    go_wp2_with fail
    refine HND.out.mono ?_
    rintro e w4 ⟨hk4, h4⟩
    have HK4 := Lib.hid ((KeepR.of (R := R) HB1.out).trans hk4)
    have HA4 := Lib.hid (HA1.out.keepR hk4 (by omega))
    clear HND hk4
    rcases X3 with a | st4
    · simp only at h4
      subst h4
      exact ⟨rfl, HK4.out, 1, .error a, by show pars s 1 .atom st = _; rw [HAT.out, HX3.out]; rfl, rfl⟩
    obtain ⟨rfl, hr4⟩ := h4
    obtain ⟨hg4, hp4⟩ := name_gs HG0.out.le HX3.out
    have HR4 := Lib.hid hr4
    have HG4 := Lib.hid hg4
    clear hr4 hg4 x0 x1 x2 x3
    have o0 := HA4.out.cell (j := 0) (by simp)
    have o1 := HA4.out.cell (j := 1) (by simp)
    have o2 := HA4.out.cell (j := 2) (by simp)
    have o3 := HA4.out.cell (j := 3) (by simp)
    have f0 := HA4.out.frozen 0
    have f1 := HA4.out.frozen 1
    have f2 := HA4.out.frozen 2
    have f3 := HA4.out.frozen 3
    simp only [List.getElem_cons_zero, List.getElem_cons_succ] at o0 o1 o2 o3
    go_wp2_with fail
    exact leaf_ret (fu := 1) rfl rfl HK4.out hRw HR4.out HA4.out HG4.out (by omega) (by rw [HAT.out, HX3.out]; rfl)
  have hd0 : 0 < st.now.size := by omega
  have e0' : ¬ st.now.toList = [] := tol_ne (a := st.now) (x := ⟨#[]⟩) (fun h => by rw [h] at hd0; exact absurd hd0 (by decide)) rfl
  have e0 : (st.now.toList == []) = false := by rw [beq_eq_false_iff_ne]; exact e0'
  have hh := head_eq hd0
  have i0 : (0 : Int) < (st.now.size : Int) := by omega
  have d39 : ((st.now[0].toNat : Int) == 39) = false := by
    rw [beq_eq_false_iff_ne]
    intro h
    exact h6 ⟨hd0, by rw [hh]; exact UInt8.toNat_inj.1 (by have : (39 : UInt8).toNat = 39 := rfl; omega)⟩
  have hdg : ¬ (48 ≤ st.now[0].toNat ∧ st.now[0].toNat ≤ 57) := fun h => h5 ⟨hd0, by rw [hh]; simp only [digitB, decide_eq_true_eq]; exact h⟩
  by_cases hc : 48 ≤ st.now[0].toNat
  · have HN1 := Lib.hid (is_no R s st trueS w1 h1 HR1.out)
    have HN2 := Lib.hid (is_no R s st falseS w1 h2 HR1.out)
    have HN4 := Lib.hid (is_no R s st lparS w1 h4 HR1.out)
    have e1' : ¬ st.now.toList = [111, 112, 101, 110] := tol_ne (x := openS) hno rfl
    have e1 : (st.now.toList == [111, 112, 101, 110]) = false := by rw [beq_eq_false_iff_ne]; exact e1'
    have e2' : ¬ st.now.toList = [100, 111, 110, 101] := tol_ne (x := doneS) hnd rfl
    have e2 : (st.now.toList == [100, 111, 110, 101]) = false := by rw [beq_eq_false_iff_ne]; exact (e2')
    have d1 : 48 ≤ (st.now[0].toNat : Int) := by omega
    have d2 : ¬ (st.now[0].toNat : Int) ≤ 57 := by omega
    clear hc hdg hh hz
    have hAT : ∀ f, pars s (f + 1) .atom st = _ := fun f => at7 h1 h2 (fun h => h.elim hno hnd) h4 h5 h6
    have HAT := Lib.hid hAT
    obtain ⟨X3, hX3⟩ : ∃ X3, (if namedG st.now = true then stepB s st.i else .error st.pos) = X3 := ⟨_, rfl⟩
    have hND := name_walk R s st w1 hs HG0.out.le HR1.out HV1.out
    rw [hX3] at hND
    have HX3 := Lib.hid hX3
    have HND := Lib.hid hND
    clear h1 h2 h4 h5 h6 hno hnd hAT hX3 hND
    go_enter Tryz.func197, Tryz.ntmps197
    go_wp2_with fail
    clear hw1
    refine HN1.out.mono ?_
    rintro e w2 ⟨rfl, rfl⟩
    clear HN1
    go_wp2_with fail
    refine HN2.out.mono ?_
    rintro e w2 ⟨rfl, rfl⟩
    clear HN2
    go_wp2_with fail
    refine HN4.out.mono ?_
    rintro e w2 ⟨rfl, rfl⟩
    clear HN4
    go_wp2_with fail
    refine HND.out.mono ?_
    rintro e w4 ⟨hk4, h4⟩
    have HK4 := Lib.hid ((KeepR.of (R := R) HB1.out).trans hk4)
    have HA4 := Lib.hid (HA1.out.keepR hk4 (by omega))
    clear HND hk4
    rcases X3 with a | st4
    · simp only at h4
      subst h4
      exact ⟨rfl, HK4.out, 1, .error a, by show pars s 1 .atom st = _; rw [HAT.out, HX3.out]; rfl, rfl⟩
    obtain ⟨rfl, hr4⟩ := h4
    obtain ⟨hg4, hp4⟩ := name_gs HG0.out.le HX3.out
    have HR4 := Lib.hid hr4
    have HG4 := Lib.hid hg4
    clear hr4 hg4 x0 x1 x2 x3
    have o0 := HA4.out.cell (j := 0) (by simp)
    have o1 := HA4.out.cell (j := 1) (by simp)
    have o2 := HA4.out.cell (j := 2) (by simp)
    have o3 := HA4.out.cell (j := 3) (by simp)
    have f0 := HA4.out.frozen 0
    have f1 := HA4.out.frozen 1
    have f2 := HA4.out.frozen 2
    have f3 := HA4.out.frozen 3
    simp only [List.getElem_cons_zero, List.getElem_cons_succ] at o0 o1 o2 o3
    go_wp2_with fail
    exact leaf_ret (fu := 1) rfl rfl HK4.out hRw HR4.out HA4.out HG4.out (by omega) (by rw [HAT.out, HX3.out]; rfl)
  · have HN1 := Lib.hid (is_no R s st trueS w1 h1 HR1.out)
    have HN2 := Lib.hid (is_no R s st falseS w1 h2 HR1.out)
    have HN4 := Lib.hid (is_no R s st lparS w1 h4 HR1.out)
    have e1' : ¬ st.now.toList = [111, 112, 101, 110] := tol_ne (x := openS) hno rfl
    have e1 : (st.now.toList == [111, 112, 101, 110]) = false := by rw [beq_eq_false_iff_ne]; exact e1'
    have e2' : ¬ st.now.toList = [100, 111, 110, 101] := tol_ne (x := doneS) hnd rfl
    have e2 : (st.now.toList == [100, 111, 110, 101]) = false := by rw [beq_eq_false_iff_ne]; exact (e2')
    have d1 : ¬ 48 ≤ (st.now[0].toNat : Int) := by omega
    clear hc hdg hh hz
    have hAT : ∀ f, pars s (f + 1) .atom st = _ := fun f => at7 h1 h2 (fun h => h.elim hno hnd) h4 h5 h6
    have HAT := Lib.hid hAT
    obtain ⟨X3, hX3⟩ : ∃ X3, (if namedG st.now = true then stepB s st.i else .error st.pos) = X3 := ⟨_, rfl⟩
    have hND := name_walk R s st w1 hs HG0.out.le HR1.out HV1.out
    rw [hX3] at hND
    have HX3 := Lib.hid hX3
    have HND := Lib.hid hND
    clear h1 h2 h4 h5 h6 hno hnd hAT hX3 hND
    go_enter Tryz.func197, Tryz.ntmps197
    go_wp2_with fail
    clear hw1
    refine HN1.out.mono ?_
    rintro e w2 ⟨rfl, rfl⟩
    clear HN1
    go_wp2_with fail
    refine HN2.out.mono ?_
    rintro e w2 ⟨rfl, rfl⟩
    clear HN2
    go_wp2_with fail
    refine HN4.out.mono ?_
    rintro e w2 ⟨rfl, rfl⟩
    clear HN4
    go_wp2_with fail
    refine HND.out.mono ?_
    rintro e w4 ⟨hk4, h4⟩
    have HK4 := Lib.hid ((KeepR.of (R := R) HB1.out).trans hk4)
    have HA4 := Lib.hid (HA1.out.keepR hk4 (by omega))
    clear HND hk4
    rcases X3 with a | st4
    · simp only at h4
      subst h4
      exact ⟨rfl, HK4.out, 1, .error a, by show pars s 1 .atom st = _; rw [HAT.out, HX3.out]; rfl, rfl⟩
    obtain ⟨rfl, hr4⟩ := h4
    obtain ⟨hg4, hp4⟩ := name_gs HG0.out.le HX3.out
    have HR4 := Lib.hid hr4
    have HG4 := Lib.hid hg4
    clear hr4 hg4 x0 x1 x2 x3
    have o0 := HA4.out.cell (j := 0) (by simp)
    have o1 := HA4.out.cell (j := 1) (by simp)
    have o2 := HA4.out.cell (j := 2) (by simp)
    have o3 := HA4.out.cell (j := 3) (by simp)
    have f0 := HA4.out.frozen 0
    have f1 := HA4.out.frozen 1
    have f2 := HA4.out.frozen 2
    have f3 := HA4.out.frozen 3
    simp only [List.getElem_cons_zero, List.getElem_cons_succ] at o0 o1 o2 o3
    go_wp2_with fail
    exact leaf_ret (fu := 1) rfl rfl HK4.out hRw HR4.out HA4.out HG4.out (by omega) (by rw [HAT.out, HX3.out]; rfl)
end Go.Proofs.YtfbbkmdhnkmonaaGreatDoor
