/- docketref17: Read. -/
import Derived.Test.YtkmgbkcpjlilpaaDoorGRead
import Derived.Test.YtkmgbkcpjlilpaaDoorRfAtom
import Derived.Test.YtkmgbkcpjlilpaaDoorRfDeep
namespace Go.Proofs.YtkmgbkcpjlilpaaDoor
open Go.RowKit

theorem rf_all {R : Nat} {s : ByteArray} (hs : s.size ≤ 17000) : ∀ N, SubX R s N 17 .guard ∧ SubX R s N 48 .part := by
  intro N
  induction N using Nat.strongRecOn with
  | ind N ih =>
    have hpart := rf_part hs (rf_sum hs (rf_product hs (rf_atom hs fun M h => (ih M h).1))) (fun M h => (ih M h).2)
    exact ⟨rf_guard hs (rf_side hs hpart), hpart⟩
theorem rf_end {W : World} {a : Act} {g : Nat} {cs : List Value} {n c : Int} {R : Ending → World → Prop} (h2 : a.tmps.getD 2 undef = .pointer (some ⟨g, 0, none⟩)) (h3 : a.tmps.getD 3 undef = .int .i64 n) (h4 : a.tmps.getD 4 undef = .int .i64 c) (hd : a.defers = []) (hF : Four cs)
    (hg : Arr W g 24 cs) (hR : R (.returned (.tuple #[.agg cs.toArray, .int .i64 n, .int .i64 c])) W) : bodyPost Tryd.prog Tryd.f6 R .ret a W := by
  obtain ⟨k0, n0, s0, a0, l0, c0, rfl⟩ := hF
  refine bodyPost_ret ?_ hd hR
  have h2' : a.tmps[2]?.getD undef = .pointer (some ⟨g, 0, none⟩) := by simpa using h2
  have h3' : a.tmps[3]?.getD undef = .int .i64 n := by simpa using h3
  have h4' : a.tmps[4]?.getD undef = .int .i64 c := by simpa using h4
  have x0 := hg.cell (j := 0) (by simp)
  have x1 := hg.cell (j := 1) (by simp)
  have x2 := hg.cell (j := 2) (by simp)
  have x3 := hg.cell (j := 3) (by simp)
  simp only [List.getElem_cons_zero, List.getElem_cons_succ] at x0 x1 x2 x3
  simp [results, Tryd.results6, h2', h3', h4', go_sem, x0, x1, x2, x3]
theorem zero_four : Four zeroG := ⟨0, 0, ⟨#[]⟩, none, 0, 0, rfl⟩
/-- what the steps came to, as readG says it -/
theorem readG_err1 {s : ByteArray} {a : Nat} (h : stepB s 0 = .error a) : readG s 0 = some (.error (a, 170)) := by rw [readG, h]
theorem readG_err2 {s : ByteArray} {a fu : Nat} {st : GSt} (h : stepB s 0 = .ok st) (hp : pars s fu .guard st = some (.error a)) : readG s fu = some (.error (a, 170)) := by rw [readG, h]; simp only; rw [hp]
theorem readG_more {s : ByteArray} {fu : Nat} {st st1 : GSt} {g : GT} (h : stepB s 0 = .ok st) (hp : pars s fu .guard st = some (.ok (g, st1))) (hn : st1.now.size ≠ 0) : readG s fu = some (.error (st1.pos, 170)) := by rw [readG, h]; simp only; rw [hp]; simp only; rw [if_pos hn]
theorem readG_deep {s : ByteArray} {fu : Nat} {st st1 : GSt} {g : GT} (h : stepB s 0 = .ok st) (hp : pars s fu .guard st = some (.ok (g, st1))) (hn : ¬ st1.now.size ≠ 0) (hd : 32 < g.deep) : readG s fu = some (.error (0, 161)) := by rw [readG, h]; simp only; rw [hp]; simp only; rw [if_neg hn, if_pos hd]
theorem readG_ok {s : ByteArray} {fu : Nat} {st st1 : GSt} {g : GT} (h : stepB s 0 = .ok st) (hp : pars s fu .guard st = some (.ok (g, st1))) (hn : ¬ st1.now.size ≠ 0) (hd : ¬ 32 < g.deep) : readG s fu = some (.ok g) := by rw [readG, h]; simp only; rw [hp]; simp only; rw [if_neg hn, if_neg hd]
/-- what readG says where the reference's reader stands behind the whole -/
def PxRead (s : ByteArray) (t : Option GT) : Except Nat GSt → Prop
  | .error a => ∃ fu, readG s fu = some (.error (a, 170))
  | .ok st => ∃ g, t = some g ∧ GS s st ∧ g.deep ≤ 20000 + s.size ∧ ∃ fu st0, stepB s 0 = .ok st0 ∧ pars s fu .guard st0 = some (.ok (g, st))
theorem px_read {s : ByteArray} {x : Except Nat GSt} {t : Option GT} (h : PX s .guard (stepB s 0) x t) : PxRead s t x := by
  cases hs : stepB s 0 with
  | error a =>
    rw [hs] at h
    obtain rfl : x = .error a := h
    exact ⟨0, readG_err1 hs⟩
  | ok st0 =>
    rw [hs] at h
    obtain ⟨fu, r, hp, hr⟩ := h
    cases r with
    | error a =>
      obtain rfl : x = .error a := hr
      exact ⟨fu, readG_err2 hs hp⟩
    | ok gs =>
      obtain ⟨g, st1⟩ := gs
      obtain ⟨rfl, rfl, h1, h2⟩ := hr
      have hg0 := (step_gs (Nat.zero_le _) hs).1
      have hd := (pars_deep s fu .guard st0 g st1 hg0 hp).2
      exact ⟨g, rfl, h1, by have := h1.le; have := h1.pos; omega, fu, st0, hs, hp⟩
set_option maxHeartbeats 8000000 in
set_option maxRecDepth 100000 in
theorem rfRead_walk (s : ByteArray) (w : World) (hs : s.size ≤ 17000) : Calls Tryd.prog 6 #[.string s] w (ReadEnd s w) := by
  by_cases hbig : 16384 < s.size
  · have i1 : (16384 : Int) < (s.size : Int) := by omega
    have HE := Lib.hid hbig
    clear hbig
    have hA := Arr.new w zeroG 24
    go_enter Tryd.func6, Tryd.ntmps6
    go_wp2_with fail
    refine rf_end rfl rfl rfl rfl zero_four (g := w.heap.size) hA ?_
    refine ⟨(Below.refl w.heap.size w).alloc (Nat.le_refl _) _, ?_⟩
    rw [if_pos HE.out]
  · have i1 : ¬ (16384 : Int) < (s.size : Int) := by omega
    have HBIG := Lib.hid hbig
    clear hbig
    obtain ⟨w2, hw2⟩ : ∃ w2, (w.alloc (.cells zeroG.toArray 24)).alloc (.cells #[.string s, .int .i64 0, .int .i64 0, .string ⟨#[]⟩, .bool false, .int .i64 0] 47) = w2 := ⟨_, rfl⟩
    have hA2 : Arr w2 w.heap.size 24 zeroG := hw2 ▸ (Arr.new w zeroG _).alloc _
    have hB2 : Below w.heap.size w w2 := hw2 ▸ ((Below.refl w.heap.size w).alloc (Nat.le_refl _) _).alloc (by rw [size_alloc]; omega) _
    have hR2 : RfIs (w.heap.size + 1) w2 s (.ok ⟨0, 0, ⟨#[]⟩⟩) := hw2 ▸ ⟨alloc_at (by rw [size_alloc])⟩
    have HS := Lib.hid (rfStep (w.heap.size + 1) s (.ok ⟨0, 0, ⟨#[]⟩⟩) w2 hs (fun st h => by cases h; exact Nat.zero_le _) hR2)
    have HA2 := Lib.hid hA2
    have HB2 := Lib.hid hB2
    have HW2 := Lib.hid hw2
    have HZ2 := Lib.hid hR2.lt
    clear hA2 hB2 hR2 hw2
    go_enter Tryd.func6, Tryd.ntmps6
    go_upto_region 4 with fail
    rw [HW2.out]
    go_wp2_with fail
    refine HS.out.mono ?_
    rintro e w3 ⟨hk3, rfl, hr3⟩
    have hx1 : GSX s (stepB s 0) := fun st h => (step_gs (Nat.zero_le _) h).1
    have HG := Lib.hid ((rf_all (R := w.heap.size + 1) hs (s.size + 1)).1 (stepB s 0) w3 (fun st _ => by omega) hx1 hr3)
    have HA3 := Lib.hid (HA2.out.keepR hk3 (by omega))
    have HB3 := Lib.hid (HB2.out.trans (hk3.below (B := w.heap.size) (by omega) HB2.out.size))
    have hz3 : w.heap.size + 1 < w3.heap.size := hr3.lt
    clear HS hk3 hr3 hx1
    go_wp2_with fail
    refine HG.out.mono ?_
    rintro e w4 ⟨hk4, x4, t4, cs4, rfl, hx4, hr4, hp4⟩
    obtain ⟨k4, n4, s4, a4, l4, c4, rfl⟩ := hx4.four
    have hz4 : w.heap.size + 1 < w4.heap.size := hr4.lt
    have HP := Lib.hid (px_read hp4)
    have HA5 := Lib.hid ((HA3.out.keepR hk4 (by omega)).alloc (.cells #[.int .u8 k4, .int .i64 n4, .string s4, .slice a4 l4 c4] 24))
    have hb5 := (Below.refl w4.heap.size w4).alloc (Nat.le_refl _) (.cells #[.int .u8 k4, .int .i64 n4, .string s4, .slice a4 l4 c4] 24)
    have HB5 := Lib.hid ((HB3.out.trans (hk4.below (B := w.heap.size) (by omega) HB3.out.size)).trans (hb5.mono (by omega)))
    have HG5 := Lib.hid (Arr.new w4 [.int .u8 k4, .int .i64 n4, .string s4, .slice a4 l4 c4] 24)
    have HX5 := Lib.hid (hx4.below hb5)
    have HR5 := Lib.hid (hr4.below hb5)
    clear HG hk4 hx4 hr4 hp4 hb5
    cases x4 with
    | error a =>
      have HR := HR5.out
      obtain ⟨i', p', HR⟩ := HR
      obtain ⟨x0, x1, x2, x3, x4, x5⟩ := rf_cells HR
      have f0 := HA5.out.frozen 0
      have f1 := HA5.out.frozen 1
      have f2 := HA5.out.frozen 2
      have f3 := HA5.out.frozen 3
      have o0 := HA5.out.cell (j := 0) (by simp)
      have o1 := HA5.out.cell (j := 1) (by simp)
      have o2 := HA5.out.cell (j := 2) (by simp)
      have o3 := HA5.out.cell (j := 3) (by simp)
      simp only [List.getElem_cons_zero, List.getElem_cons_succ] at o0 o1 o2 o3
      clear HR
      go_wp2_with fail
      go_region_held3 (fun w' => w'.cell? ⟨w.heap.size + 1, 5, none⟩ = some (.int .i64 (a : Int))) (first | exact x5 | go_keep) (fail)
      go_wp2_with fail
      refine rf_end rfl rfl rfl rfl zero_four (g := w.heap.size) ((((HA5.out.set 0 _).set 1 _).set 2 _).set 3 _).drew ?_
      refine ⟨((((HB5.out.setCell (p := ⟨w.heap.size, 0, none⟩) (Nat.le_refl _) _).setCell (p := ⟨w.heap.size, 1, none⟩) (Nat.le_refl _) _).setCell (p := ⟨w.heap.size, 2, none⟩) (Nat.le_refl _) _).setCell (p := ⟨w.heap.size, 3, none⟩) (Nat.le_refl _) _).drew, ?_⟩
      rw [if_neg HBIG.out]
      obtain ⟨fu, hfu⟩ := HP.out
      exact ⟨fu, _, hfu, rfl⟩
    | ok st =>
      obtain ⟨g, rfl, hg, hd, hfu⟩ := HP.out
      have HR := HR5.out
      replace HR : Arr (w4.alloc (.cells #[.int .u8 k4, .int .i64 n4, .string s4, .slice a4 l4 c4] 24)) (w.heap.size + 1) 47 [.string s, .int .i64 (st.i : Int), .int .i64 (st.pos : Int), .string st.now, .bool false, .int .i64 0] := HR
      obtain ⟨x0, x1, x2, x3, x4, x5⟩ := rf_cells HR
      have HFU := Lib.hid hfu
      have HG := Lib.hid hg
      clear HP hfu hg
      by_cases hn0 : st.now.size = 0
      · have e0' : st.now.toList = [] := by rw [Go.ByteArray.toList_eq]; exact List.eq_nil_of_length_eq_zero hn0
        have e0 : (st.now.toList == []) = true := by rw [e0']; rfl
        have HN0 := Lib.hid hn0
        have HIN := Lib.hid (GIs.gin (show GIs _ _ g _ from HX5.out))
        have HDW := Lib.hid (rfDeep_walk 100000 g.toGD _ _ (by rw [toGD_deep]; omega) (by omega) HIN.out)
        have y0 := HG5.out.cell (j := 0) (by simp)
        have y1 := HG5.out.cell (j := 1) (by simp)
        have y2 := HG5.out.cell (j := 2) (by simp)
        have y3 := HG5.out.cell (j := 3) (by simp)
        simp only [List.getElem_cons_zero, List.getElem_cons_succ] at y0 y1 y2 y3
        clear hn0 HR
        go_wp2_with fail
        refine HDW.out.mono ?_
        rintro e w6 ⟨rfl, hb6⟩
        rw [toGD_deep]
        have HA6 := Lib.hid (Arr.below HA5.out hb6 HA5.out.lt)
        have HB6 := Lib.hid (HB5.out.trans (hb6.mono HB5.out.size))
        have HX6 := Lib.hid (GX.below hb6 HX5.out)
        have HG6 := Lib.hid (Arr.below HG5.out hb6 HG5.out.lt)
        clear hb6 HDW HIN x0 x1 x2 x3 x4 x5 y0 y1 y2 y3
        have y0 := HG6.out.cell (j := 0) (by simp)
        have y1 := HG6.out.cell (j := 1) (by simp)
        have y2 := HG6.out.cell (j := 2) (by simp)
        have y3 := HG6.out.cell (j := 3) (by simp)
        have o0 := HA6.out.cell (j := 0) (by simp)
        have o1 := HA6.out.cell (j := 1) (by simp)
        have o2 := HA6.out.cell (j := 2) (by simp)
        have o3 := HA6.out.cell (j := 3) (by simp)
        have f0 := HA6.out.frozen 0
        have f1 := HA6.out.frozen 1
        have f2 := HA6.out.frozen 2
        have f3 := HA6.out.frozen 3
        simp only [List.getElem_cons_zero, List.getElem_cons_succ] at y0 y1 y2 y3 o0 o1 o2 o3
        by_cases h32 : 32 < g.deep
        · have i2 : (32 : Int) < (g.deep : Int) := by omega
          have H32 := Lib.hid h32
          clear h32
          go_wp2_with fail
          refine rf_end rfl rfl rfl rfl zero_four (g := w.heap.size) ((((HA6.out.set 0 _).set 1 _).set 2 _).set 3 _) ?_
          refine ⟨(((HB6.out.setCell (p := ⟨w.heap.size, 0, none⟩) (Nat.le_refl _) _).setCell (p := ⟨w.heap.size, 1, none⟩) (Nat.le_refl _) _).setCell (p := ⟨w.heap.size, 2, none⟩) (Nat.le_refl _) _).setCell (p := ⟨w.heap.size, 3, none⟩) (Nat.le_refl _) _, ?_⟩
          rw [if_neg HBIG.out]
          obtain ⟨fu, st0, h1, h2⟩ := HFU.out
          exact ⟨fu, _, readG_deep h1 h2 (by rw [HN0.out]; decide) H32.out, rfl⟩
        · have i2 : ¬ (32 : Int) < (g.deep : Int) := by omega
          have H32 := Lib.hid h32
          clear h32
          go_wp2_with fail
          refine rf_end rfl rfl rfl rfl ⟨k4, n4, s4, a4, l4, c4, rfl⟩ (g := w.heap.size) ((((HA6.out.set 0 _).set 1 _).set 2 _).set 3 _) ?_
          refine ⟨(((HB6.out.setCell (p := ⟨w.heap.size, 0, none⟩) (Nat.le_refl _) _).setCell (p := ⟨w.heap.size, 1, none⟩) (Nat.le_refl _) _).setCell (p := ⟨w.heap.size, 2, none⟩) (Nat.le_refl _) _).setCell (p := ⟨w.heap.size, 3, none⟩) (Nat.le_refl _) _, ?_⟩
          rw [if_neg HBIG.out]
          obtain ⟨fu, st0, h1, h2⟩ := HFU.out
          refine ⟨fu, _, readG_ok h1 h2 (by rw [HN0.out]; decide) H32.out, _, rfl, ?_⟩
          have hx : GIs (fun k => k < w3.heap.size) w6 g [.int .u8 k4, .int .i64 n4, .string s4, .slice a4 l4 c4] := HX6.out
          exact (GIs.setCell (p := ⟨w.heap.size, 3, none⟩) (show w.heap.size < w3.heap.size by omega) _ (GIs.setCell (p := ⟨w.heap.size, 2, none⟩) (show w.heap.size < w3.heap.size by omega) _ (GIs.setCell (p := ⟨w.heap.size, 1, none⟩) (show w.heap.size < w3.heap.size by omega) _ (GIs.setCell (p := ⟨w.heap.size, 0, none⟩) (show w.heap.size < w3.heap.size by omega) _ hx)))).mono fun k _ (hy : k < w.heap.size) => show k < w3.heap.size by omega
      · have e0' : ¬ st.now.toList = [] := by rw [Go.ByteArray.toList_eq]; intro h; exact hn0 (by rw [← ba_len, h]; rfl)
        have e0 : (st.now.toList == []) = false := by simpa using e0'
        have HFL := Lib.hid (rfFail_ok (w.heap.size + 1) s st.i st.pos st.pos st.now _ HR)
        have HN0 := Lib.hid hn0
        clear hn0 HR
        go_wp2_with fail
        refine HFL.out.mono ?_
        rintro e w6 ⟨hk6, rfl, hr6⟩
        have HA6 := Lib.hid (HA5.out.keepR hk6 (by omega))
        have HB6 := Lib.hid (HB5.out.trans (hk6.below (B := w.heap.size) (by omega) HB5.out.size))
        obtain ⟨i', p', hr6⟩ := hr6
        clear hk6 x0 x1 x2 x3 x4 x5 HFL
        obtain ⟨x0, x1, x2, x3, x4, x5⟩ := rf_cells hr6
        have f0 := HA6.out.frozen 0
        have f1 := HA6.out.frozen 1
        have f2 := HA6.out.frozen 2
        have f3 := HA6.out.frozen 3
        have o0 := HA6.out.cell (j := 0) (by simp)
        have o1 := HA6.out.cell (j := 1) (by simp)
        have o2 := HA6.out.cell (j := 2) (by simp)
        have o3 := HA6.out.cell (j := 3) (by simp)
        simp only [List.getElem_cons_zero, List.getElem_cons_succ] at o0 o1 o2 o3
        clear hr6
        go_wp2_with fail
        go_region_held3 (fun w' => w'.cell? ⟨w.heap.size + 1, 5, none⟩ = some (.int .i64 (st.pos : Int))) (first | exact x5 | go_keep) (fail)
        go_wp2_with fail
        refine rf_end rfl rfl rfl rfl zero_four (g := w.heap.size) ((((HA6.out.set 0 _).set 1 _).set 2 _).set 3 _).drew ?_
        refine ⟨((((HB6.out.setCell (p := ⟨w.heap.size, 0, none⟩) (Nat.le_refl _) _).setCell (p := ⟨w.heap.size, 1, none⟩) (Nat.le_refl _) _).setCell (p := ⟨w.heap.size, 2, none⟩) (Nat.le_refl _) _).setCell (p := ⟨w.heap.size, 3, none⟩) (Nat.le_refl _) _).drew, ?_⟩
        rw [if_neg HBIG.out]
        obtain ⟨fu, st0, h1, h2⟩ := HFU.out
        exact ⟨fu, _, readG_more h1 h2 HN0.out, rfl⟩
end Go.Proofs.YtkmgbkcpjlilpaaDoor
