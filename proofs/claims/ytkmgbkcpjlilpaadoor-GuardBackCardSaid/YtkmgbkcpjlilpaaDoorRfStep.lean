/- docketref17: the reader's fail, step, is, need, name; two. -/
import Derived.BigRegion
import Derived.Test.YtkmgbkcpjlilpaaDoorRfLong
namespace Go.Proofs.YtkmgbkcpjlilpaaDoor
open Go.RowKit

def AdvR (R : Nat) (s : ByteArray) (x : Except Nat GSt) (v : Value) (w : World) (e : Ending) (w' : World) : Prop := KeepR R w w' ∧ e = .returned v ∧ RfIs R w' s x
abbrev rdT : Nat := 47
set_option maxHeartbeats 2000000 in
set_option maxRecDepth 100000 in
theorem rfFail_ok (R : Nat) (s : ByteArray) (i p a : Nat) (nw : ByteArray) (w : World) (h : Arr w R 47 [.string s, .int .i64 (i : Int), .int .i64 (p : Int), .string nw, .bool false, .int .i64 0]) :
    Calls Tryd.prog 18 #[.pointer (some ⟨R, 0, none⟩), .int .i64 (a : Int)] w (AdvR R s (.error a) (.tuple #[]) w) := by
  have H := Lib.hid h
  obtain ⟨x0, x1, x2, x3, x4, x5⟩ := rf_cells h
  have f3 := h.frozen 3
  have f4 := h.frozen 4
  have f5 := h.frozen 5
  clear h
  go_enter Tryd.func18, Tryd.ntmps18
  go_wp2_with fail
  go_end0
  exact ⟨(((KeepR.refl R w).setCell _).setCell _).setCell _, rfl, i, p, ((H.out.set 4 _).set 5 _).set 3 _⟩
set_option maxHeartbeats 2000000 in
set_option maxRecDepth 100000 in
theorem rfFail_bad (R : Nat) (s : ByteArray) (b : Nat) (v : Value) (w : World) (h : RfIs R w s (.error b)) :
    Calls Tryd.prog 18 #[.pointer (some ⟨R, 0, none⟩), v] w (AdvR R s (.error b) (.tuple #[]) w) := by
  have H := Lib.hid h
  obtain ⟨i, p, h⟩ := h
  obtain ⟨x0, x1, x2, x3, x4, x5⟩ := rf_cells h
  clear h
  go_enter Tryd.func18, Tryd.ntmps18
  go_wp2_with fail
  go_end0
  exact ⟨KeepR.refl R w, rfl, H.out⟩
set_option maxHeartbeats 2000000 in
set_option maxRecDepth 100000 in
theorem rfStep_bad (R : Nat) (s : ByteArray) (b : Nat) (w : World) (h : RfIs R w s (.error b)) :
    Calls Tryd.prog 16 #[.pointer (some ⟨R, 0, none⟩)] w (AdvR R s (.error b) (.tuple #[]) w) := by
  have H := Lib.hid h
  obtain ⟨i, p, h⟩ := h
  obtain ⟨x0, x1, x2, x3, x4, x5⟩ := rf_cells h
  clear h
  go_enter Tryd.func16, Tryd.ntmps16
  go_wp2_with fail
  go_end0
  exact ⟨KeepR.refl R w, rfl, H.out⟩
theorem atI_arr {R : Nat} {w : World} {t : TypeId} {a c d e f : Value} {i : Nat} (h : Arr w R t [a, .int .i64 (i : Int), c, d, e, f]) : atI R w = i := by
  rw [atI, (rf_cells h).2.1]; simp [intOf]
set_option maxHeartbeats 8000000 in
set_option maxRecDepth 100000 in
theorem rfStep_ok (R : Nat) (s : ByteArray) (st : GSt) (w : World) (hs : s.size ≤ 17000) (hi : st.i ≤ s.size) (h : RfIs R w s (.ok st)) :
    Calls Tryd.prog 16 #[.pointer (some ⟨R, 0, none⟩)] w (AdvR R s (stepB s st.i) (.tuple #[]) w) := by
  have HR0 : Hid (Arr w R 47 [.string s, .int .i64 (st.i : Int), .int .i64 (st.pos : Int), .string st.now, .bool false, .int .i64 0]) := h
  obtain ⟨X, hX⟩ : ∃ X, stepB s st.i = X := ⟨_, rfl⟩
  have HST := Lib.hid hX
  rw [hX]
  obtain ⟨-, -, -, -, x4, -⟩ := rf_cells HR0.out
  clear h hX
  go_enter Tryd.func16, Tryd.ntmps16
  go_upto_block 0 with fail
  clear x4
  go_cut [7] from 8 to 35 (fun _ wx => Hid (Arr wx R 47 [.string s, .int .i64 (fromB s st.i : Int), .int .i64 (st.pos : Int), .string st.now, .bool false, .int .i64 0]) ∧ Hid (KeepR R w wx))
  case first =>
    go_wp2_with fail
    go_loopw [7] (fun _ wr => ∃ j : Nat, st.i ≤ j ∧ j ≤ s.size ∧ Hid (fromB s j = fromB s st.i) ∧ Hid (Arr wr R 47 [.string s, .int .i64 (j : Int), .int .i64 (st.pos : Int), .string st.now, .bool false, .int .i64 0]) ∧ Hid (KeepR R w wr)) (fun _ wr => s.size - atI R wr)
    case atStart => exact ⟨st.i, Nat.le_refl _, hi, rfl, HR0, KeepR.refl _ _⟩
    case round =>
      obtain ⟨j, hij, hj, hf, hX, hK⟩ := hrel
      obtain ⟨x0, x1, -, -, -, -⟩ := rf_cells hX.out
      have f1 := hX.out.frozen 1
      by_cases hlt : j < s.size
      · have i1 : (j : Int) < (s.size : Int) := by omega
        have i2 : (0 : Int) ≤ (j : Int) := by omega
        by_cases h32 : s[j] = 32
        · have HF : Hid (fromB s (j + 1) = fromB s st.i) := by show _ = _; rw [fromB_next hlt h32]; exact hf.out
          have g : (((s[j]'hlt).toNat : Int) == 32) = true := by rw [h32]; rfl
          have wr1 : IntKind.i64.wrap ((j : Int) + 1) = (j : Int) + 1 := wrap_i64 (by omega) (by omega)
          clear h32 hf
          go_wp2
          go_quiet (fail)
          go_wp2
          have h2 := (hX.out.drewN nq).set 1 (.int .i64 ((j : Int) + 1))
          refine ⟨⟨j + 1, by omega, by omega, HF, h2, (hK.out.drewN nq).setCell _⟩, ?_⟩
          rw [atI_arr (i := j + 1) h2, atI_arr hX.out]
          omega
        · have hfj := fromB_stop hlt h32
          have hff := hf.out
          have g : (((s[j]'hlt).toNat : Int) == 32) = false := by
            rw [beq_eq_false_iff_ne]
            intro hc
            exact h32 (UInt8.toNat_inj.1 (by have : (32 : UInt8).toNat = 32 := rfl; omega))
          clear h32 hf
          go_wp2
          go_quiet (fail)
          go_wp2
          go_meet
          rw [← hff, hfj]
          exact ⟨hX.out.drewN nq, hK.out.drewN nq⟩
      · have hje : j = s.size := by omega
        subst hje
        have hff := hf.out
        rw [fromB_end] at hff
        have i1 : ¬ (s.size : Int) < (s.size : Int) := by omega
        clear hf
        go_wp2
        go_quiet (fail)
        go_wp2
        go_meet
        rw [← hff]
        exact ⟨hX.out.drewN nq, hK.out.drewN nq⟩
  case rest =>
    obtain ⟨hX, hK⟩ := hcut
    have hge : st.i ≤ fromB s st.i := fromB_ge s st.i
    have hle : fromB s st.i ≤ s.size := fromB_le s hi
    have hst := HST.out
    rw [stepB] at hst
    clear HST
    generalize fromB s st.i = f at *
    obtain ⟨x0, x1, x2, x3, x4, x5⟩ := rf_cells hX.out
    have f1 := hX.out.frozen 1
    have f2 := hX.out.frozen 2
    have f3 := hX.out.frozen 3
    by_cases hfe : f = s.size
    · rw [if_pos hfe] at hst
      have g : ((f : Int) == (s.size : Int)) = true := by rw [hfe]; simp
      have HX := Lib.hid hst
      have HE := Lib.hid hfe
      clear hst hfe
      go_wp2_with fail
      go_quiet (fail)
      go_wp2_with fail
      go_end0
      rw [← HX.out]
      have h2 := (((hX.out.set 2 (.int .i64 (f : Int))).set 3 (.string ⟨#[]⟩)).drewN nq)
      exact ⟨((hK.out.setCell _).setCell _).drewN nq, rfl, HE.out ▸ h2⟩
    · rw [if_neg hfe] at hst
      have g : ((f : Int) == (s.size : Int)) = false := by rw [beq_eq_false_iff_ne]; omega
      have hfl : f < s.size := by omega
      obtain ⟨m, hm⟩ : ∃ m, longB (s.data.toList.drop f) = m := ⟨_, rfl⟩
      have hm1 := longB_le (s.data.toList.drop f)
      rw [List.length_drop, ba_len, hm] at hm1
      have HL := Lib.hid (fun v1 v2 v3 v4 v5 W h => by have := rfLong_walk R s v1 v2 v3 v4 v5 f W hs hfl h; rw [hm] at this; exact this)
      rw [hm] at hst
      have HX := Lib.hid hst
      clear hst hfe hm
      have i1 : (0 : Int) ≤ (f : Int) := by omega
      have i2 : (f : Int) ≤ (s.size : Int) := by omega
      have h5 := (hX.out.set 2 (.int .i64 (f : Int))).set 3 (.string ⟨#[]⟩)
      go_wp2_with fail
      go_quiet (fail)
      have H6 := Lib.hid (h5.drewN nq)
      have HK6 := Lib.hid (((hK.out.setCell (j := 2) (.int .i64 (f : Int))).setCell (j := 3) (.string ⟨#[]⟩)).drewN nq)
      clear h5
      obtain ⟨w6, hw6⟩ : ∃ w6, ((wc.setCell ⟨R, 2, none⟩ (.int .i64 (f : Int))).setCell ⟨R, 3, none⟩ (.string ⟨#[]⟩)).drewN nq = w6 := ⟨_, rfl⟩
      have HW6 := Lib.hid hw6
      rw [hw6] at H6 HK6
      clear hw6
      rw [HW6.out]
      clear HW6 x0 x1 x2 x3 x4 x5 f1 f2 f3
      obtain ⟨x0, x1, x2, x3, x4, x5⟩ := rf_cells H6.out
      have f1 := H6.out.frozen 1
      have f3 := H6.out.frozen 3
      by_cases hm0 : m = 0
      · subst hm0
        rw [if_pos rfl] at HX
        have HF := Lib.hid (rfFail_ok R s f f f ⟨#[]⟩ w6 H6.out)
        go_wp2_with fail
        refine (HL.out _ _ _ _ _ _ H6.out).mono ?_
        rintro e w7 ⟨rfl, rfl⟩
        go_wp2_with fail
        refine HF.out.mono ?_
        rintro e w8 ⟨hk, rfl, h8⟩
        have HK8 := Lib.hid (HK6.out.trans hk)
        have H8 := Lib.hid h8
        clear hk h8
        go_wp2_with fail
        go_end0
        rw [← HX.out]
        exact ⟨HK8.out, rfl, H8.out⟩
      · rw [if_neg hm0] at HX
        have g0 : ((m : Int) == 0) = false := by rw [beq_eq_false_iff_ne]; omega
        have i3 : (f : Int) ≤ (f : Int) + (m : Int) := by omega
        have i4 : (f : Int) + (m : Int) ≤ (s.size : Int) := by omega
        clear hm0
        go_wp2_with fail
        refine (HL.out _ _ _ _ _ _ H6.out).mono ?_
        rintro e w7 ⟨rfl, rfl⟩
        go_wp2_with fail
        go_region
        go_wp2_with fail
        go_end0
        rw [← HX.out]
        have h9 := ((H6.out.set 3 (.string (s.extract f (f + m)))).set 1 (.int .i64 ((f : Int) + (m : Int)))).drew
        exact ⟨((HK6.out.setCell _).setCell _).drew, rfl, h9⟩
/-- a step, in a state or behind a fault -/
def stepX (s : ByteArray) : Except Nat GSt → Except Nat GSt
  | .ok st => stepB s st.i
  | .error a => .error a
theorem rfStep (R : Nat) (s : ByteArray) (x : Except Nat GSt) (w : World) (hs : s.size ≤ 17000) (hi : ∀ st, x = .ok st → st.i ≤ s.size) (h : RfIs R w s x) :
    Calls Tryd.prog 16 #[.pointer (some ⟨R, 0, none⟩)] w (AdvR R s (stepX s x) (.tuple #[]) w) := by
  cases x with
  | ok st => exact rfStep_ok R s st w hs (hi st rfl) h
  | error a => exact rfStep_bad R s a w h
set_option maxHeartbeats 2000000 in
set_option maxRecDepth 100000 in
theorem rfIs_yes (R : Nat) (s : ByteArray) (st : GSt) (w : World) (hs : s.size ≤ 17000) (hi : st.i ≤ s.size) (h : RfIs R w s (.ok st)) :
    Calls Tryd.prog 31 #[.pointer (some ⟨R, 0, none⟩), .string st.now] w (AdvR R s (stepB s st.i) (.bool true) w) := by
  have HS := Lib.hid (rfStep_ok R s st w hs hi h)
  have h' : Arr w R 47 [.string s, .int .i64 (st.i : Int), .int .i64 (st.pos : Int), .string st.now, .bool false, .int .i64 0] := h
  obtain ⟨x0, x1, x2, x3, x4, x5⟩ := rf_cells h'
  clear h h'
  go_enter Tryd.func31, Tryd.ntmps31
  go_wp2_with fail
  refine HS.out.mono ?_
  rintro e w2 ⟨hk, rfl, h2⟩
  have HK := Lib.hid hk
  have H2 := Lib.hid h2
  clear hk h2 HS
  go_wp2_with fail
  go_ret
  exact ⟨HK.out, rfl, H2.out⟩
set_option maxHeartbeats 2000000 in
set_option maxRecDepth 100000 in
theorem rfIs_no (R : Nat) (s : ByteArray) (st : GSt) (y : ByteArray) (w : World) (hy : ¬ st.now = y) (h : RfIs R w s (.ok st)) :
    Calls Tryd.prog 31 #[.pointer (some ⟨R, 0, none⟩), .string y] w fun e w' => e = .returned (.bool false) ∧ w = w' := by
  have h' : Arr w R 47 [.string s, .int .i64 (st.i : Int), .int .i64 (st.pos : Int), .string st.now, .bool false, .int .i64 0] := h
  obtain ⟨x0, x1, x2, x3, x4, x5⟩ := rf_cells h'
  have g : (st.now.toList == y.toList) = false := by rw [ba_eq]; exact decide_eq_false hy
  clear h h'
  go_enter Tryd.func31, Tryd.ntmps31
  go_wp2_with fail
  go_ret
  exact ⟨rfl, rfl⟩
set_option maxHeartbeats 2000000 in
set_option maxRecDepth 100000 in
theorem rfIs_bad (R : Nat) (s : ByteArray) (a : Nat) (y : ByteArray) (w : World) (h : RfIs R w s (.error a)) :
    Calls Tryd.prog 31 #[.pointer (some ⟨R, 0, none⟩), .string y] w fun e w' => e = .returned (.bool false) ∧ w = w' := by
  obtain ⟨i, p, h⟩ := h
  obtain ⟨x0, x1, x2, x3, x4, x5⟩ := rf_cells h
  clear h
  go_enter Tryd.func31, Tryd.ntmps31
  go_wp2_with fail
  go_ret
  exact ⟨rfl, rfl⟩
def needX (s : ByteArray) (y : ByteArray) : Except Nat GSt → Except Nat GSt
  | .ok st => needB s y st
  | .error a => .error a
set_option maxHeartbeats 2000000 in
set_option maxRecDepth 100000 in
theorem rfNeed (R : Nat) (s : ByteArray) (x : Except Nat GSt) (y : ByteArray) (w : World) (hs : s.size ≤ 17000) (hi : ∀ st, x = .ok st → st.i ≤ s.size) (h : RfIs R w s x) :
    Calls Tryd.prog 85 #[.pointer (some ⟨R, 0, none⟩), .string y] w (AdvR R s (needX s y x) (.tuple #[]) w) := by
  cases x with
  | ok st =>
    by_cases hy : st.now = y
    · subst hy
      have HS := Lib.hid (rfIs_yes R s st w hs (hi st rfl) h)
      show Calls _ _ _ _ (AdvR R s (needB s st.now st) _ w)
      rw [needB, if_pos rfl]
      clear h
      go_enter Tryd.func85, Tryd.ntmps85
      go_wp2_with fail
      refine HS.out.mono ?_
      rintro e w2 ⟨hk, rfl, h2⟩
      have HK := Lib.hid hk
      have H2 := Lib.hid h2
      clear hk h2 HS
      go_wp2_with fail
      go_end0
      exact ⟨HK.out, rfl, H2.out⟩
    · have HS := Lib.hid (rfIs_no R s st y w hy h)
      show Calls _ _ _ _ (AdvR R s (needB s y st) _ w)
      rw [needB, if_neg hy]
      have HF := Lib.hid (rfFail_ok R s st.i st.pos st.pos st.now w h)
      have h' : Arr w R 47 [.string s, .int .i64 (st.i : Int), .int .i64 (st.pos : Int), .string st.now, .bool false, .int .i64 0] := h
      obtain ⟨x0, x1, x2, x3, x4, x5⟩ := rf_cells h'
      clear h h'
      go_enter Tryd.func85, Tryd.ntmps85
      go_wp2_with fail
      refine HS.out.mono ?_
      rintro e w2 ⟨rfl, rfl⟩
      clear HS
      go_wp2_with fail
      refine HF.out.mono ?_
      rintro e w2 ⟨hk, rfl, h2⟩
      have HK := Lib.hid hk
      have H2 := Lib.hid h2
      clear hk h2 HF
      go_wp2_with fail
      go_end0
      exact ⟨HK.out, rfl, H2.out⟩
  | error a =>
    have HS := Lib.hid (rfIs_bad R s a y w h)
    have HF := Lib.hid (fun v => rfFail_bad R s a v w h)
    obtain ⟨i, p, h⟩ := h
    obtain ⟨x0, x1, x2, x3, x4, x5⟩ := rf_cells h
    clear h
    go_enter Tryd.func85, Tryd.ntmps85
    go_wp2_with fail
    refine HS.out.mono ?_
    rintro e w2 ⟨rfl, rfl⟩
    clear HS
    go_wp2_with fail
    refine (HF.out _).mono ?_
    rintro e w2 ⟨hk, rfl, h2⟩
    have HK := Lib.hid hk
    have H2 := Lib.hid h2
    clear hk h2 HF
    go_wp2_with fail
    go_end0
    exact ⟨HK.out, rfl, H2.out⟩
set_option maxHeartbeats 2000000 in
set_option maxRecDepth 100000 in
theorem rfName_ok (R : Nat) (s : ByteArray) (st : GSt) (w : World) (hs : s.size ≤ 17000) (hg : GS s st) (h : RfIs R w s (.ok st)) :
    Calls Tryd.prog 86 #[.pointer (some ⟨R, 0, none⟩)] w fun e w' => ∃ y, AdvR R s (if namedG st.now = true then stepB s st.i else .error st.pos) (.string y) w e w' ∧ (namedG st.now = true → y = st.now) := by
  have HN := Lib.hid (fun W => rfNamed_walk st.now W (by unfold maxLen; have := hg.short; omega))
  have HF := Lib.hid (rfFail_ok R s st.i st.pos st.pos st.now w h)
  have HS := Lib.hid (rfStep_ok R s st w hs hg.le h)
  have h' : Arr w R 47 [.string s, .int .i64 (st.i : Int), .int .i64 (st.pos : Int), .string st.now, .bool false, .int .i64 0] := h
  obtain ⟨x0, x1, x2, x3, x4, x5⟩ := rf_cells h'
  clear h h'
  generalize namedG st.now = nb at *
  cases nb with
  | false =>
    rw [if_neg (by decide)]
    go_enter Tryd.func86, Tryd.ntmps86
    go_wp2_with fail
    refine (HN.out _).mono ?_
    rintro e w2 ⟨rfl, rfl⟩
    go_wp2_with fail
    refine HF.out.mono ?_
    rintro e w2 ⟨hk, rfl, h2⟩
    have HK := Lib.hid hk
    have H2 := Lib.hid h2
    clear hk h2 HF HS
    go_wp2_with fail
    go_ret
    exact ⟨_, ⟨HK.out, rfl, H2.out⟩, fun h => absurd h (by decide)⟩
  | true =>
    rw [if_pos rfl]
    go_enter Tryd.func86, Tryd.ntmps86
    go_wp2_with fail
    refine (HN.out _).mono ?_
    rintro e w2 ⟨rfl, rfl⟩
    go_wp2_with fail
    refine HS.out.mono ?_
    rintro e w2 ⟨hk, rfl, h2⟩
    have HK := Lib.hid hk
    have H2 := Lib.hid h2
    clear hk h2 HF HS
    go_wp2_with fail
    go_ret
    exact ⟨_, ⟨HK.out, rfl, H2.out⟩, fun _ => rfl⟩
set_option maxHeartbeats 2000000 in
set_option maxRecDepth 100000 in
theorem rfName_bad (R : Nat) (s : ByteArray) (a : Nat) (w : World) (h : RfIs R w s (.error a)) :
    Calls Tryd.prog 86 #[.pointer (some ⟨R, 0, none⟩)] w fun e w' => ∃ y, AdvR R s (.error a) (.string y) w e w' := by
  have HF := Lib.hid (fun v => rfFail_bad R s a v w h)
  obtain ⟨i, p, h⟩ := h
  obtain ⟨x0, x1, x2, x3, x4, x5⟩ := rf_cells h
  clear h
  go_enter Tryd.func86, Tryd.ntmps86
  go_wp2_with fail
  refine (HF.out _).mono ?_
  rintro e w2 ⟨hk, rfl, h2⟩
  have HK := Lib.hid hk
  have H2 := Lib.hid h2
  clear hk h2 HF
  go_wp2_with fail
  go_ret
  exact ⟨_, HK.out, rfl, H2.out⟩
end Go.Proofs.YtkmgbkcpjlilpaaDoor
