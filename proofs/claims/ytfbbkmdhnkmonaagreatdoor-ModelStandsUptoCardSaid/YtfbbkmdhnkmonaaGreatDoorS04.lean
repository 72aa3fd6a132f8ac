/- package guard: named; the reader's step. package guard: the reader's step. -/
import Derived.Test.YtfbbkmdhnkmonaaGreatDoorS03
import Derived.Deep.DeepCutAuto
import Derived.Deep.CutBlock
namespace Go.Proofs.YtfbbkmdhnkmonaaGreatDoor
open Go.RowKit

theorem head_eq {s : ByteArray} (h : 0 < s.size) : s.data.toList.headD 0 = s[0] := by
  have h1 : s.data.toList = s[0] :: s.data.toList.drop 1 := by
    rw [← List.drop_zero (l := s.data.toList), List.drop_eq_getElem_cons (by rw [ba_len]; exact h)]; rfl
  rw [h1]; rfl

set_option maxHeartbeats 2000000 in
set_option maxRecDepth 100000 in
theorem namedG_walk (s : ByteArray) (w : World) : Calls Tryz.prog 146 #[.string s] w fun e w' => e = .returned (.bool (namedG s)) ∧ Below w.heap.size w w' := by
  have HT := Lib.hid (taken_walk s w)
  have HI := Lib.hid (fun (W : World) => Tryz.strings_IndexFunc_grows 176 #[] (enters_of Tryz.func176 (by kernel_rfl) rfl) _ s W (named1_walk W))
  have hi := idx_neg let_eq (fun r h => by simp [letR]; omega) s
  obtain ⟨R, hR⟩ : ∃ R, namedG s = R := ⟨_, rfl⟩
  rw [hR]
  by_cases h0 : 0 < s.size
  rotate_left
  · have HF : Hid (R = false) := by show _ = _; rw [← hR, namedG, decide_eq_false h0]; simp
    have d0 : decide (0 < (s.size : Int)) = false := decide_eq_false (by omega)
    clear hR hi
    go_enter Tryz.func146, Tryz.ntmps146
    go_wp2_with fail
    go_ret
    exact ⟨ret_bool HF.out.symm, Below.refl _ _⟩
  have d0 : decide (0 < (s.size : Int)) = true := decide_eq_true (by omega)
  by_cases h32 : s.size ≤ 32
  rotate_left
  · have HF : Hid (R = false) := by show _ = _; rw [← hR, namedG, decide_eq_false h32]; simp
    have d1 : decide ((s.size : Int) ≤ 32) = false := decide_eq_false (by omega)
    clear hR hi
    go_enter Tryz.func146, Tryz.ntmps146
    go_wp2_with fail
    go_ret
    exact ⟨ret_bool HF.out.symm, Below.refl _ _⟩
  have d1 : decide ((s.size : Int) ≤ 32) = true := decide_eq_true (by omega)
  rw [namedG, decide_eq_true h0, decide_eq_true h32, head_eq h0] at hR
  have i0 : (0 : Int) < (s.size : Int) := by omega
  by_cases ha : 97 ≤ (s[0].toNat : Int)
  rotate_left
  · have HF : Hid (R = false) := by show _ = _; rw [← hR, decide_eq_false (by omega)]; simp
    have d2 : decide (97 ≤ (s[0].toNat : Int)) = false := decide_eq_false ha
    clear hR hi
    go_enter Tryz.func146, Tryz.ntmps146
    go_wp2_with fail
    go_ret
    exact ⟨ret_bool HF.out.symm, Below.refl _ _⟩
  have d2 : decide (97 ≤ (s[0].toNat : Int)) = true := decide_eq_true ha
  by_cases hz : (s[0].toNat : Int) ≤ 122
  rotate_left
  · have HF : Hid (R = false) := by show _ = _; rw [← hR, decide_eq_false (by omega)]; simp
    have d3 : decide ((s[0].toNat : Int) ≤ 122) = false := decide_eq_false hz
    clear hR hi
    go_enter Tryz.func146, Tryz.ntmps146
    go_wp2_with fail
    go_ret
    exact ⟨ret_bool HF.out.symm, Below.refl _ _⟩
  have d3 : decide ((s[0].toNat : Int) ≤ 122) = true := decide_eq_true hz
  rw [decide_eq_true (show 97 ≤ s[0].toNat ∧ s[0].toNat ≤ 122 by omega)] at hR
  simp only [Bool.true_and] at hR
  cases ht : takenB s
  · rw [ht] at HT hR
    simp only [Bool.not_false, Bool.true_and] at hR
    rw [hR] at hi
    generalize Lib.idxFunc (fun r => !letR r) true s = x at *
    have HF := Lib.hid hi
    clear hR ht hi
    go_enter Tryz.func146, Tryz.ntmps146
    go_wp2_with fail
    refine HT.out.mono ?_
    rintro e w2 ⟨rfl, hb2⟩
    have HB2 := Lib.hid hb2
    clear hb2
    go_wp2_with fail
    refine (HI.out _).mono ?_
    rintro e w3 ⟨rfl, hb3⟩
    have HB3 := Lib.hid (HB2.out.trans (hb3.mono HB2.out.size))
    clear hb3
    go_wp2_with fail
    go_ret
    exact ⟨ret_bool HF.out, HB3.out⟩
  · rw [ht] at HT hR
    have HF : Hid (R = false) := by show _ = _; rw [← hR]; simp
    clear hR ht hi
    go_enter Tryz.func146, Tryz.ntmps146
    go_wp2_with fail
    refine HT.out.mono ?_
    rintro e w2 ⟨rfl, hb2⟩
    have HB2 := Lib.hid hb2
    clear hb2
    go_wp2_with fail
    go_ret
    exact ⟨ret_bool HF.out.symm, HB2.out⟩

/-! Plain facts on a step. -/
theorem drop_at {s : ByteArray} {j : Nat} (h : j < s.size) : s.data.toList.drop j = s[j] :: s.data.toList.drop (j + 1) := by
  rw [List.drop_eq_getElem_cons (by rw [ba_len]; exact h)]; rfl
theorem fromB_next {s : ByteArray} {j : Nat} (h : j < s.size) (h32 : s[j] = 32) : fromB s (j + 1) = fromB s j := by
  have h2 : (s[j] == (32 : UInt8)) = true := by rw [h32]; rfl
  unfold fromB
  rw [drop_at h, List.takeWhile_cons, if_pos h2, List.length_cons]
  omega
theorem fromB_stop {s : ByteArray} {j : Nat} (h : j < s.size) (h32 : s[j] ≠ 32) : fromB s j = j := by
  have h2 : ¬ (s[j] == (32 : UInt8)) = true := by simpa using h32
  unfold fromB
  rw [drop_at h, List.takeWhile_cons, if_neg h2]
  rfl
theorem fromB_end (s : ByteArray) : fromB s s.size = s.size := by
  unfold fromB
  rw [List.drop_of_length_le (by rw [ba_len]; exact Nat.le_refl _)]
  rfl
theorem sign_idx (c : UInt8) : decide (0 ≤ Lib.indexByte signsB c) = signsB.contains c := by
  refine u8_all (p := fun c => decide (0 ≤ Lib.indexByte signsB c) = signsB.contains c) ?_ c
  decide +kernel
def tenB : List UInt8 := [48, 49, 50, 51, 52, 53, 54, 55, 56, 57]
theorem ten_eq (c : UInt8) : tenB.contains c = digitB c := by
  refine u8_all (p := fun c => tenB.contains c = digitB c) ?_ c
  decide +kernel
theorem idx_quote : ∀ l : List UInt8, Lib.indexByte l 39 = if (l.takeWhile (· != 39)).length < l.length then ((l.takeWhile (· != 39)).length : Int) else -1
  | [] => rfl
  | c :: r => by
    rw [Lib.indexByte, idx_quote r, List.takeWhile_cons]
    by_cases h : c = 39
    · subst h; simp
    · have h1 : (c == (39 : UInt8)) = false := by simpa using h
      have h2 : (c != (39 : UInt8)) = true := by simpa using h
      rw [h1, h2]
      simp only [Bool.false_eq_true, if_false, if_true, List.length_cons, Nat.add_lt_add_iff_right]
      split
      · rw [if_neg (by simp <;> omega)] <;> omega
      · simp
theorem take_takeWhile {p : UInt8 → Bool} (l : List UInt8) : l.take (l.takeWhile p).length = l.takeWhile p :=
  (List.prefix_iff_eq_take.1 (List.takeWhile_prefix p)).symm
end Go.Proofs.YtfbbkmdhnkmonaaGreatDoor

namespace Go.Proofs.YtfbbkmdhnkmonaaGreatDoor
open Go.RowKit

/-- what the library's variable holds -/
def GW (R : Nat) (w : World) : Prop := (∃ t p, w.cell? ⟨2, 0, none⟩ = some (.iface t p)) ∧ 2 ≠ R
theorem KeepR.cell {R : Nat} {w w' : World} (h : KeepR R w w') {b o : Nat} {v : Value} (hc : w.cell? ⟨b, o, none⟩ = some v) (hb : b ≠ R) : w'.cell? ⟨b, o, none⟩ = some v :=
  (World.cell?_of_block (h.block b (World.block_lt_of_cell? w _ hc) hb)).trans hc
theorem GW.keep {R : Nat} {w w' : World} (h : GW R w) (hk : KeepR R w w') : GW R w' := by
  obtain ⟨⟨t, p, hc⟩, hne⟩ := h
  exact ⟨⟨t, p, hk.cell hc hne⟩, hne⟩
abbrev faultE (a : Nat) : Ending := .panicked [{ v := .iface 124 (.int .i64 (a : Int)), recovered := false }]
def StepEnd (R : Nat) (s : ByteArray) (r : Except Nat GSt) (w : World) (e : Ending) (w' : World) : Prop :=
  KeepR R w w' ∧ match r with
    | .ok st => e = .returned (.tuple #[]) ∧ RdIs R w' s st
    | .error a => e = faultE a
theorem rd_cells {R : Nat} {w : World} {s : ByteArray} {st : GSt} (h : RdIs R w s st) : w.cell? ⟨R, 0, none⟩ = some (.string s) ∧ w.cell? ⟨R, 1, none⟩ = some (.int .i64 (st.i : Int)) ∧ w.cell? ⟨R, 2, none⟩ = some (.int .i64 (st.pos : Int)) ∧ w.cell? ⟨R, 3, none⟩ = some (.string st.now) :=
  ⟨Arr.cell h (j := 0) (by simp), Arr.cell h (j := 1) (by simp), Arr.cell h (j := 2) (by simp), Arr.cell h (j := 3) (by simp)⟩
theorem rd_frozen {R : Nat} {w : World} {s : ByteArray} {st : GSt} (h : RdIs R w s st) (j : Nat) : w.frozen? ⟨R, j, none⟩ = false := Arr.frozen h j
def atI (R : Nat) (w : World) : Nat := (intOf ((w.cell? ⟨R, 1, none⟩).getD undef)).toNat
theorem atI_eq {R : Nat} {w : World} {s : ByteArray} {st : GSt} (h : RdIs R w s st) : atI R w = st.i := by
  rw [atI, (rd_cells h).2.1]; simp [intOf]

theorem rd_set {R : Nat} {w : World} {s : ByteArray} {st : GSt} {i : Nat} (h : RdIs R w s st) : RdIs R (w.setCell ⟨R, 1, none⟩ (.int .i64 (i : Int))) s ⟨i, st.pos, st.now⟩ := Arr.set h 1 _
theorem rd_set2 {R : Nat} {w : World} {s : ByteArray} {st : GSt} {p : Nat} {n : ByteArray} (h : RdIs R w s st) : RdIs R ((w.setCell ⟨R, 2, none⟩ (.int .i64 (p : Int))).setCell ⟨R, 3, none⟩ (.string n)) s ⟨st.i, p, n⟩ := Arr.set (Arr.set h 2 _) 3 _
theorem KeepR.drewN {R : Nat} {w w' : World} (h : KeepR R w w') (n : Nat) : KeepR R w (w'.drewN n) := h.next (below_drewN (Below.refl _ _) n)
theorem rd_drewN {R : Nat} {w : World} {s : ByteArray} {st : GSt} (h : RdIs R w s st) (n : Nat) : RdIs R (w.drewN n) s st := Arr.drewN h n
theorem trim_walk (s : ByteArray) (w : World) : Calls Tryz.prog 113 #[.string s, .string ⟨#[48, 49, 50, 51, 52, 53, 54, 55, 56, 57]⟩] w fun e w' => e = .returned (.string ⟨(s.data.toList.dropWhile digitB).toArray⟩) ∧ Below w.heap.size w w' := by
  refine (Any.strings_TrimLeft_laid Tryz.lays161 (by kernel_rfl) s ⟨#[48, 49, 50, 51, 52, 53, 54, 55, 56, 57]⟩ w (by decide) (ascii_of_all (by decide))).mono ?_
  rintro e w' ⟨rfl, h2⟩
  refine ⟨?_, h2⟩
  show Ending.returned (.string ⟨(s.data.toList.dropWhile (tenB.contains ·)).toArray⟩) = _
  rw [show (fun c => tenB.contains c) = digitB from funext ten_eq]
theorem below_bytes (w : World) (t : TypeId) (s : ByteArray) : Below w.heap.size w (Lib.bytesWorld w t s) :=
  ⟨by unfold Lib.bytesWorld World.freeze; split <;> rfl, by unfold Lib.bytesWorld World.freeze; split <;> rfl, by unfold Lib.bytesWorld World.freeze; split <;> rfl, by rw [Lib.bytesWorld_size]; omega, fun k hk => Lib.bytesWorld_at_old _ _ _ _ hk⟩
/-- strconv.ParseInt at digits -/
theorem digits_walk {R : Nat} (D : ByteArray) (w : World) (hsz : D.size ≤ 17000) (h0 : D.data.toList ≠ []) (hd : D.data.toList.all digitB = true) (hv : GW R w) :
    Calls Tryz.prog 114 #[.string D, .int .i64 10, .int .i64 64] w fun e w' => Below w.heap.size w w' ∧ ∃ v er, e = .returned (.tuple #[.int .i64 v, er]) ∧ (spell 0 D.data.toList ≤ 9223372036854775807 → v = (spell 0 D.data.toList : Int) ∧ er = .nilIface) ∧ (¬ spell 0 D.data.toList ≤ 9223372036854775807 → ∃ t p, er = .iface t p) := by
  have hp := parseInt_digits h0 hd
  by_cases hle : spell 0 D.data.toList ≤ 9223372036854775807
  · rw [if_pos hle] at hp
    refine (Tryz.strconv_ParseInt_10_at64_ok D (by omega) _ hp w).mono ?_
    rintro e w' ⟨rfl, h2⟩
    refine ⟨?_, _, _, rfl, fun _ => ⟨rfl, rfl⟩, fun h => absurd hle h⟩
    rcases h2 with rfl | ⟨t, rfl⟩
    · exact Below.refl _ _
    · exact below_bytes _ _ _
  · rw [if_neg hle] at hp
    obtain ⟨⟨te, pe, hc⟩, -⟩ := hv
    refine (Tryz.strconv_ParseInt_10_at64_range D (by omega) hp _ w hc (.inr ⟨te, pe, rfl⟩)).mono ?_
    rintro e w' ⟨N, rfl, -, -, h2⟩
    exact ⟨h2, _, _, rfl, fun h => absurd h hle, fun _ => ⟨_, _, rfl⟩⟩
theorem trim_size (l : List UInt8) : ((⟨(l.dropWhile digitB).toArray⟩ : ByteArray).size : Int) = (l.length : Int) - ((l.takeWhile digitB).length : Int) := by
  have h : l.takeWhile digitB ++ l.dropWhile digitB = l := List.takeWhile_append_dropWhile
  have h2 := congrArg List.length h
  rw [List.length_append] at h2
  show ((l.dropWhile digitB).toArray.size : Int) = _
  rw [List.size_toArray]
  omega
theorem tw_lt {p : UInt8 → Bool} : ∀ (l : List UInt8) (j : Nat) (_ : j < (l.takeWhile p).length) (h2 : j < l.length), p l[j] = true
  | [], _, h, _ => by simp at h
  | c :: r, j, h, h2 => by
    rw [List.takeWhile_cons] at h
    by_cases hc : p c = true
    · rw [if_pos hc] at h
      cases j with
      | zero => exact hc
      | succ j => exact tw_lt r j (by simpa using h) (by simpa using h2)
    · rw [if_neg hc] at h; simp at h
theorem tw_at {p : UInt8 → Bool} : ∀ (l : List UInt8) (h2 : (l.takeWhile p).length < l.length), p l[(l.takeWhile p).length] = false
  | [], h2 => by simp at h2
  | c :: r, h2 => by
    by_cases hc : p c = true
    · have e : (c :: r).takeWhile p = c :: r.takeWhile p := by rw [List.takeWhile_cons, if_pos hc]
      have h3 : (r.takeWhile p).length < r.length := by rw [e] at h2; simpa using h2
      have := tw_at r h3
      simp only [e, List.length_cons, List.getElem_cons_succ]
      exact this
    · have e : (c :: r).takeWhile p = [] := by rw [List.takeWhile_cons, if_neg hc]
      simp only [e, List.length_nil, List.getElem_cons_zero]
      simpa using hc
set_option maxHeartbeats 8000000 in
set_option maxRecDepth 100000 in
theorem step_walk (R : Nat) (s : ByteArray) (st : GSt) (w : World) (hs : s.size ≤ 17000) (hi : st.i ≤ s.size) (h : RdIs R w s st) (hv : GW R w) :
    Calls Tryz.prog 79 #[.pointer (some ⟨R, 0, none⟩)] w (StepEnd R s (stepB s st.i) w) := by
  have HR0 := Lib.hid h
  have HV0 := Lib.hid hv
  obtain ⟨X, hX⟩ : ∃ X, stepB s st.i = X := ⟨_, rfl⟩
  have HST := Lib.hid hX
  rw [hX]
  clear h hv hX
  go_enter Tryz.func79, Tryz.ntmps79
  go_upto_block 0 with fail
  go_cut [8] from 9 to 36 (fun _ wx => Hid (RdIs R wx s ⟨fromB s st.i, st.pos, st.now⟩) ∧ Hid (KeepR R w wx))
  case first =>
    go_wp2_with fail
    go_loopw [8] (fun _ wr => ∃ j : Nat, st.i ≤ j ∧ j ≤ s.size ∧ Hid (fromB s j = fromB s st.i) ∧ Hid (RdIs R wr s ⟨j, st.pos, st.now⟩) ∧ Hid (KeepR R w wr)) (fun _ wr => s.size - atI R wr)
    case atStart => exact ⟨st.i, Nat.le_refl _, hi, rfl, HR0, KeepR.refl _ _⟩
    case round =>
      obtain ⟨j, hij, hj, hf, hX, hK⟩ := hrel
      obtain ⟨x0, x1, -, -⟩ := rd_cells hX.out
      have f1 := rd_frozen hX.out 1
      simp only at x1
      by_cases hlt : j < s.size
      · have i1 : (j : Int) < (s.size : Int) := by omega
        have i2 : (0 : Int) ≤ (j : Int) := by omega
        by_cases h32 : s[j] = 32
        · have HF : Hid (fromB s (j + 1) = fromB s st.i) := by show _ = _; rw [fromB_next hlt h32]; exact hf.out
          have g : (((s[j]'hlt).toNat : Int) == 32) = true := by rw [h32]; rfl
          have wr1 : IntKind.i64.wrap ((j : Int) + 1) = (j : Int) + 1 := wrap_i64 (by omega) (by omega)
          clear h32 hf
          go_wp2
          go_quiet (fail)
          go_wp2
          have h2 : RdIs R ((wr.drewN nq).setCell ⟨R, 1, none⟩ (.int .i64 ((j : Int) + 1))) s ⟨j + 1, st.pos, st.now⟩ := rd_set (st := ⟨j, st.pos, st.now⟩) (i := j + 1) (rd_drewN hX.out nq)
          refine ⟨⟨j + 1, by omega, by omega, HF, h2, (hK.out.drewN nq).setCell _⟩, ?_⟩
          rw [atI_eq h2, atI_eq hX.out]
          show s.size - (j + 1) < s.size - j
          omega
        · have hfj := fromB_stop hlt h32
          have hff := hf.out
          have g : (((s[j]'hlt).toNat : Int) == 32) = false := by
            rw [beq_eq_false_iff_ne]
            intro hc
            exact h32 (UInt8.toNat_inj.1 (by have : (32 : UInt8).toNat = 32 := rfl; omega))
          clear h32 hf
          go_wp2
          go_quiet (fail)
          go_wp2
          go_meet
          rw [← hff, hfj]
          exact ⟨rd_drewN hX.out nq, hK.out.drewN nq⟩
      · have hje : j = s.size := by omega
        subst hje
        have hff := hf.out
        rw [fromB_end] at hff
        have i1 : ¬ (s.size : Int) < (s.size : Int) := by omega
        clear hf
        go_wp2
        go_quiet (fail)
        go_wp2
        go_meet
        rw [← hff]
        exact ⟨rd_drewN hX.out nq, hK.out.drewN nq⟩
  case rest =>
    obtain ⟨hX, hK⟩ := hcut
    have hge : st.i ≤ fromB s st.i := fromB_ge s st.i
    have hle : fromB s st.i ≤ s.size := fromB_le s hi
    have hst := HST.out
    rw [stepB] at hst
    clear HST
    generalize fromB s st.i = f at *
    obtain ⟨x0, x1, x2, x3⟩ := rd_cells hX.out
    have f1 := rd_frozen hX.out 1
    have f2 := rd_frozen hX.out 2
    have f3 := rd_frozen hX.out 3
    simp only at x1 x2 x3
    by_cases hfe : f = s.size
    · rw [if_pos hfe] at hst
      have g : ((f : Int) == (s.size : Int)) = true := by rw [hfe]; simp
      have HX := Lib.hid hst
      clear hst
      go_wp2_with fail
      go_end0
      rw [← HX.out, hfe]
      exact ⟨(hK.out.setCell _).setCell _, rfl, hfe ▸ rd_set2 hX.out⟩
    · rw [if_neg hfe] at hst
      have g : ((f : Int) == (s.size : Int)) = false := by rw [beq_eq_false_iff_ne]; omega
      have HX := Lib.hid hst
      clear hst
      have i1 : (0 : Int) ≤ (f : Int) := by omega
      have i2 : (f : Int) ≤ (s.size : Int) := by omega
      go_upto_region 6 with fail
      have hfl : f < s.size := by omega
      have hTn : (s.extract f s.size).size = s.size - f := by rw [ByteArray.size_extract]; omega
      have hTl : (s.extract f s.size).data.toList = s.data.toList.drop f := by
        rw [ByteArray.data_extract, Array.toList_extract]
        show (s.data.toList.drop f).take (s.size - f) = _
        rw [List.take_of_length_le (by rw [List.length_drop, ba_len]; exact Nat.le_refl _)]
      generalize s.extract f s.size = T at *
      have hTf : f + T.size = s.size := by omega
      clear hTn
      have i0 : (0 : Int) < (T.size : Int) := by omega
      go_upto_block 2 with fail
      obtain ⟨c, r, hL, hc⟩ : ∃ c r, T.data.toList = c :: r ∧ T[0]'(by omega) = c := by
        refine ⟨T[0]'(by omega), T.data.toList.drop 1, ?_, rfl⟩
        rw [← List.drop_zero (l := T.data.toList), List.drop_eq_getElem_cons (by rw [ba_len]; omega)]; rfl
      rw [← hTl] at HX
      obtain ⟨m, hm⟩ : ∃ m, longB T.data.toList = m := ⟨_, rfl⟩
      rw [hm] at HX
      rw [hL] at hm
      rw [hc]
      have hrl : r.length + 1 = T.size := by rw [← ba_len, hL]; rfl
      clear hc
      go_cut [4] (fun t wx => t = .int .i64 (m : Int) ∧ m ≠ 0 ∧ Hid (Below wc.heap.size wc wx))
      case first =>
        have hsg := sign_idx c
        by_cases hs1 : signsB.contains c = true
        · rw [hs1, decide_eq_true_eq] at hsg
          have d0 : 0 ≤ Lib.indexByte [61, 60, 43, 45, 42, 40, 41, 48] c := hsg
          have hm1 : m = 1 := by rw [← hm, longB, if_pos hs1]
          clear hsg hs1
          go_wp2_with (go_at_call 112; refine (Tryz.strings_IndexByte _ _ _).mono ?_; rintro e w2 ⟨rfl, rfl⟩)
          go_meet
          exact ⟨by rw [hm1]; rfl, by omega, Below.refl _ _⟩
        rw [Bool.not_eq_true] at hs1
        rw [hs1, decide_eq_false_iff_not] at hsg
        have d0 : ¬ 0 ≤ Lib.indexByte [61, 60, 43, 45, 42, 40, 41, 48] c := hsg
        have hs2 : ¬ signsB.contains c = true := by rw [hs1]; decide
        rw [longB, if_neg hs2] at hm
        clear hsg hs1 hs2
        by_cases hd1 : 49 ≤ c.toNat ∧ c.toNat ≤ 57
        · rw [if_pos hd1] at hm
          have d1 : 49 ≤ (c.toNat : Int) := by omega
          have d2 : (c.toNat : Int) ≤ 57 := by omega
          clear hd1
          have hcd : digitB c = true := by simp only [digitB, decide_eq_true_eq]; omega
          have hk1 : T.data.toList.takeWhile digitB = c :: r.takeWhile digitB := by rw [hL, List.takeWhile_cons, if_pos hcd]
          obtain ⟨k, hk⟩ : ∃ k, (r.takeWhile digitB).length + 1 = k := ⟨_, rfl⟩
          have hV := trim_size T.data.toList
          rw [hk1, List.length_cons, hk, ba_len] at hV
          obtain ⟨V, hVe⟩ : ∃ V : ByteArray, (⟨(T.data.toList.dropWhile digitB).toArray⟩ : ByteArray) = V := ⟨_, rfl⟩
          have HT := fun (W : World) => trim_walk T W
          rw [hVe] at HT hV
          have hkT : k ≤ T.size := by have := takeWhile_le (p := digitB) r; omega
          have hDl : (T.extract 0 k).data.toList = c :: r.takeWhile digitB := by
            rw [ByteArray.data_extract, Array.toList_extract]
            show (T.data.toList.drop 0).take (k - 0) = _
            rw [List.drop_zero, Nat.sub_zero, ← hk1, ← take_takeWhile, hk1, List.length_cons, hk]
          have wr1 : IntKind.i64.wrap ((T.size : Int) - (V.size : Int)) = (k : Int) := by rw [wrap_i64 (by omega) (by omega)]; omega
          have hP := fun (W : World) (hv : GW R W) => digits_walk (R := R) (T.extract 0 k) W (by rw [ByteArray.size_extract]; omega) (by rw [hDl]; simp) (by
            rw [hDl, ← hk1]; exact List.all_takeWhile) hv
          rw [hDl] at hP
          have HTH := Lib.hid HT
          have HPH := Lib.hid hP
          have i3 : (0 : Int) ≤ (k : Int) := by omega
          have i4 : (k : Int) ≤ (T.size : Int) := by omega
          have k0 : 0 < k := by omega
          clear HT hP hVe hk1 hcd hV hDl
          go_upto_region 12 with (first | fail | (go_at_call 112; refine (Tryz.strings_IndexByte _ _ _).mono ?_; rintro e w2 ⟨rfl, rfl⟩))
          go_upto_region 13 with (go_at_call 113; refine (HTH.out _).mono ?_; rintro e w3 ⟨rfl, hb3⟩)
          have HB3 := Lib.hid hb3
          have hv3 := HV0.out.keep (hK.out.next hb3)
          clear hb3
          by_cases hsp : spell 0 (c :: r.takeWhile digitB) ≤ 9223372036854775807
          · have hP : Calls Tryz.prog 114 #[.string (T.extract 0 k), .int .i64 10, .int .i64 64] w3 fun e w' => Below w3.heap.size w3 w' ∧ ∃ v, e = .returned (.tuple #[.int .i64 v, .nilIface]) := by
              refine (HPH.out w3 hv3).mono ?_
              rintro e w' ⟨h1, v, er, rfl, h2, -⟩
              exact ⟨h1, v, by rw [(h2 hsp).2]⟩
            rw [if_pos hsp] at hm
            have hkm : m = k := by omega
            have HP := Lib.hid hP
            clear hv3 HPH hsp hm hP
            go_wp2_with fail
            refine HP.out.mono ?_
            rintro e w4 ⟨hb4, v, rfl⟩
            have HB4 := Lib.hid (HB3.out.trans (hb4.mono HB3.out.size))
            clear HP HB3 hb4
            go_wp2_with fail
            go_meet
            exact ⟨by rw [hkm], by omega, HB4.out⟩
          · have hP : Calls Tryz.prog 114 #[.string (T.extract 0 k), .int .i64 10, .int .i64 64] w3 fun e w' => Below w3.heap.size w3 w' ∧ ∃ v t p, e = .returned (.tuple #[.int .i64 v, .iface t p]) := by
              refine (HPH.out w3 hv3).mono ?_
              rintro e w' ⟨h1, v, er, rfl, -, h2⟩
              obtain ⟨t, p, rfl⟩ := h2 hsp
              exact ⟨h1, v, t, p, rfl⟩
            rw [if_neg hsp] at hm
            have HM := Lib.hid hm.symm
            have HP := Lib.hid hP
            clear hv3 HPH hsp hP hm
            go_wp2_with fail
            refine HP.out.mono ?_
            rintro e w4 ⟨hb4, v, t, p, rfl⟩
            have HB4 := Lib.hid (HB3.out.trans (hb4.mono HB3.out.size))
            clear HP HB3 hb4
            go_wp2_with fail
            refine ⟨rfl, ?_⟩
            rw [← HX.out, if_pos HM.out]
            exact ⟨hK.out.next HB4.out, rfl⟩
        rw [if_neg hd1] at hm
        by_cases hq : c = 39
        · rw [if_pos hq] at hm
          have d39 : ((c.toNat : Int) == 39) = true := by rw [hq]; rfl
          have d1 : ¬ 49 ≤ (c.toNat : Int) := by rw [hq]; decide
          clear hd1 hq
          have hTr : (T.extract 1 T.size).data.toList = r := by
            rw [ByteArray.data_extract, Array.toList_extract]
            show (T.data.toList.drop 1).take (T.size - 1) = _
            rw [hL]
            show r.take (T.size - 1) = r
            rw [List.take_of_length_le (by omega)]
          have hix := idx_quote r
          obtain ⟨k, hk⟩ : ∃ k, (r.takeWhile (· != 39)).length = k := ⟨_, rfl⟩
          have hkr := takeWhile_le (p := (· != 39)) r
          have hTq : (T.extract 1 (k + 1)).data.toList = r.takeWhile (· != 39) := by
            rw [ByteArray.data_extract, Array.toList_extract]
            show (T.data.toList.drop 1).take (k + 1 - 1) = _
            rw [hL, Nat.add_sub_cancel]
            show r.take k = _
            rw [← hk, take_takeWhile]
          rw [hk] at hix hm hkr
          have HI := Lib.hid (fun (W : World) => by have := Tryz.strings_IndexByte (T.extract 1 T.size) 39 W; rw [hTr] at this; exact this)
          have HQ := Lib.hid (fun (W : World) => by have := quoted_walk (T.extract 1 (k + 1)) W; rw [hTq] at this; exact this)
          go_upto_region 17 with (go_at_call 112; refine (Tryz.strings_IndexByte _ _ _).mono ?_; rintro e w2 ⟨rfl, rfl⟩)
          clear hTr hTq
          by_cases hkl : k < r.length
          · rw [if_pos hkl] at hix
            have hix2 : Lib.indexByte r (39 : Int).toNat.toUInt8 = (k : Int) := hix
            rw [hix2] at HI
            have i3 : (1 : Int) ≤ (T.size : Int) := by omega
            have wr1 : IntKind.i64.wrap ((k : Int) + 2) = (k : Int) + 2 := wrap_i64 (by omega) (by omega)
            have wr2 : IntKind.i64.wrap ((k : Int) + 2 - 1) = ((k + 1 : Nat) : Int) := by rw [wrap_i64 (by omega) (by omega)]; omega
            have i4 : ¬ ((k : Int) + 2 < 2) := by omega
            have i5 : ((k + 1 : Nat) : Int) ≤ (T.size : Int) := by omega
            have i6 : (1 : Int) ≤ ((k + 1 : Nat) : Int) := by omega
            obtain ⟨b, hb⟩ : ∃ b, (r.takeWhile (· != 39)).all quotB = b := ⟨_, rfl⟩
            rw [hb] at HQ hm
            cases b
            · rw [if_neg (by simp)] at hm
              have HM := Lib.hid hm.symm
              clear hm hix hix2 hb hk
              go_wp2_with fail
              refine (HI.out _).mono ?_
              rintro e w3 ⟨rfl, rfl⟩
              go_upto_region 18 with fail
              go_wp2_with fail
              refine (HQ.out _).mono ?_
              rintro e w4 ⟨rfl, hb4⟩
              have HB4 := Lib.hid hb4
              clear hb4 HQ HI
              go_wp2_with fail
              refine ⟨rfl, ?_⟩
              rw [← HX.out, if_pos HM.out]
              exact ⟨hK.out.next HB4.out, rfl⟩
            · rw [if_pos ⟨hkl, rfl⟩] at hm
              clear hix hix2 hb hk
              go_wp2_with fail
              refine (HI.out _).mono ?_
              rintro e w3 ⟨rfl, rfl⟩
              go_upto_region 18 with fail
              go_wp2_with fail
              refine (HQ.out _).mono ?_
              rintro e w4 ⟨rfl, hb4⟩
              have HB4 := Lib.hid hb4
              clear hb4 HQ HI
              go_wp2_with fail
              go_meet
              exact ⟨by rw [← hm]; rfl, by omega, HB4.out⟩
          · rw [if_neg hkl] at hix
            have hix2 : Lib.indexByte r (39 : Int).toNat.toUInt8 = -1 := hix
            rw [hix2] at HI
            rw [if_neg (fun h => hkl h.1)] at hm
            have HM := Lib.hid hm.symm
            have i3 : (1 : Int) ≤ (T.size : Int) := by omega
            clear hix hix2 hk hm HQ
            go_wp2_with fail
            refine (HI.out _).mono ?_
            rintro e w3 ⟨rfl, rfl⟩
            go_wp2_with fail
            refine ⟨rfl, ?_⟩
            rw [← HX.out, if_pos HM.out]
            exact ⟨hK.out, rfl⟩
        rw [if_neg hq] at hm
        have hq2 : ¬ (c.toNat : Int) = 39 := by
          intro h
          exact hq (UInt8.toNat_inj.1 (by have : (39 : UInt8).toNat = 39 := rfl; omega))
        have d39 : ((c.toNat : Int) == 39) = false := by rw [beq_eq_false_iff_ne]; exact hq2
        by_cases hlet : 97 ≤ c.toNat ∧ c.toNat ≤ 122
        · rw [if_pos hlet] at hm
          have d1 : 49 ≤ (c.toNat : Int) := by omega
          have d2 : ¬ (c.toNat : Int) ≤ 57 := by omega
          have d3 : 97 ≤ (c.toNat : Int) := by omega
          have d4 : (c.toNat : Int) ≤ 122 := by omega
          have hcl : letterB c = true := by
            simp only [letterB, Bool.or_eq_true, decide_eq_true_eq]
            exact .inl (.inl (.inl (.inl hlet)))
          have hk1 : T.data.toList.takeWhile letterB = c :: r.takeWhile letterB := by rw [hL, List.takeWhile_cons, if_pos hcl]
          obtain ⟨k, hk⟩ : ∃ k, (r.takeWhile letterB).length + 1 = k := ⟨_, rfl⟩
          have hk2 : (T.data.toList.takeWhile letterB).length = k := by rw [hk1, List.length_cons, hk]
          have hkT : k ≤ T.size := by have := takeWhile_le (p := letterB) r; omega
          have hk0 : 0 < k := by omega
          have HLT : Hid (∀ (j : Nat) (h : j < k) (h2 : j < T.size), letterB (T[j]'h2) = true) := fun j h h2 => tw_lt (p := letterB) T.data.toList j (by omega) (by rw [ba_len]; exact h2)
          have HLE : Hid (∀ (h2 : k < T.size), letterB (T[k]'h2) = false) := fun h2 => by
            have := tw_at (p := letterB) T.data.toList (by rw [hk2, ba_len]; exact h2)
            simp only [hk2] at this
            exact this
          rw [hk] at hm
          have HM := Lib.hid hm
          clear hd1 hq hq2 hlet hcl hk1 hk2 hk hm
          go_upto_block 3 with (go_at_call 112; refine (Tryz.strings_IndexByte _ _ _).mono ?_; rintro e w2 ⟨rfl, rfl⟩)
          go_wp2_with fail
          have W0 := Lib.hid (Below.refl w2.heap.size w2)
          go_loopw [4] (fun t wr => ∃ j : Nat, j ≤ k ∧ t = .int .i64 (j : Int) ∧ wr = w2) (fun t _ => k - (intOf t).toNat)
          case atStart => exact ⟨0, Nat.zero_le _, rfl, rfl⟩
          case round =>
            obtain ⟨j, hj, rfl, rfl⟩ := hrel
            have j0 : (0 : Int) ≤ (j : Int) := by omega
            by_cases hjk : j < k
            · have hjT : j < T.size := by omega
              have jT : (j : Int) < (T.size : Int) := by omega
              have wr1 : IntKind.i64.wrap ((j : Int) + 1) = (j : Int) + 1 := wrap_i64 (by omega) (by omega)
              have HL := Lib.hid (fun W => by have := letter_walk (T[j]'hjT) W; rw [HLT.out j hjk hjT] at this; exact this)
              clear HLT HLE
              go_wp2_with fail
              refine (HL.out _).mono ?_
              rintro e w5 ⟨rfl, rfl⟩
              go_wp2_with fail
              refine ⟨⟨j + 1, by omega, by first | rfl | trivial, trivial⟩, ?_⟩
              simp only [intOf]
              omega
            · have hje : j = k := by omega
              subst hje
              by_cases hjT : j < T.size
              · have jT : (j : Int) < (T.size : Int) := by omega
                have HL := Lib.hid (fun W => by have := letter_walk (T[j]'hjT) W; rw [HLE.out hjT] at this; exact this)
                clear HLT HLE hjk
                by_cases h32 : j ≤ 32
                · have hmj := HM.out
                  rw [if_pos h32] at hmj
                  have HMK := Lib.hid hmj.symm
                  have d5 : ¬ (32 : Int) < (j : Int) := by omega
                  clear hmj h32
                  go_wp2_with fail
                  refine (HL.out _).mono ?_
                  rintro e w5 ⟨rfl, rfl⟩
                  go_wp2_with fail
                  go_meet
                  exact ⟨by rw [HMK.out], by have := HMK.out; omega, W0.out⟩
                · have hmj := HM.out
                  rw [if_neg h32] at hmj
                  have HMK := Lib.hid hmj.symm
                  have d5 : (32 : Int) < (j : Int) := by omega
                  clear hmj h32
                  go_wp2_with fail
                  refine (HL.out _).mono ?_
                  rintro e w5 ⟨rfl, rfl⟩
                  go_wp2_with fail
                  refine ⟨rfl, ?_⟩
                  rw [← HX.out, if_pos HMK.out]
                  exact ⟨hK.out, rfl⟩
              · have jT : ¬ (j : Int) < (T.size : Int) := by omega
                clear HLT HLE hjk
                by_cases h32 : j ≤ 32
                · have hmj := HM.out
                  rw [if_pos h32] at hmj
                  have HMK := Lib.hid hmj.symm
                  have d5 : ¬ (32 : Int) < (j : Int) := by omega
                  clear hmj h32
                  go_wp2_with fail
                  go_meet
                  exact ⟨by rw [HMK.out], by have := HMK.out; omega, W0.out⟩
                · have hmj := HM.out
                  rw [if_neg h32] at hmj
                  have HMK := Lib.hid hmj.symm
                  have d5 : (32 : Int) < (j : Int) := by omega
                  clear hmj h32
                  go_wp2_with fail
                  refine ⟨rfl, ?_⟩
                  rw [← HX.out, if_pos HMK.out]
                  exact ⟨hK.out, rfl⟩
        rw [if_neg hlet] at hm
        have HM := Lib.hid hm.symm
        clear hm
        rcases (by omega : c.toNat < 49 ∨ (57 < c.toNat ∧ c.toNat < 97) ∨ 122 < c.toNat) with h1 | h1 | h1
        · have d1 : ¬ 49 ≤ (c.toNat : Int) := by omega
          have d2 : ¬ 97 ≤ (c.toNat : Int) := by omega
          clear hd1 hq hq2 hlet h1
          go_wp2_with (go_at_call 112; refine (Tryz.strings_IndexByte _ _ _).mono ?_; rintro e w2 ⟨rfl, rfl⟩)
          refine ⟨rfl, ?_⟩
          rw [← HX.out, if_pos HM.out]
          exact ⟨hK.out, rfl⟩
        · have d1 : 49 ≤ (c.toNat : Int) := by omega
          have d3 : ¬ (c.toNat : Int) ≤ 57 := by omega
          have d2 : ¬ 97 ≤ (c.toNat : Int) := by omega
          clear hd1 hq hq2 hlet h1
          go_wp2_with (go_at_call 112; refine (Tryz.strings_IndexByte _ _ _).mono ?_; rintro e w2 ⟨rfl, rfl⟩)
          refine ⟨rfl, ?_⟩
          rw [← HX.out, if_pos HM.out]
          exact ⟨hK.out, rfl⟩
        · have d1 : 49 ≤ (c.toNat : Int) := by omega
          have d3 : ¬ (c.toNat : Int) ≤ 57 := by omega
          have d2 : 97 ≤ (c.toNat : Int) := by omega
          have d4 : ¬ (c.toNat : Int) ≤ 122 := by omega
          clear hd1 hq hq2 hlet h1
          go_wp2_with (go_at_call 112; refine (Tryz.strings_IndexByte _ _ _).mono ?_; rintro e w2 ⟨rfl, rfl⟩)
          refine ⟨rfl, ?_⟩
          rw [← HX.out, if_pos HM.out]
          exact ⟨hK.out, rfl⟩
      case rest =>
        rename_i wb _
        obtain ⟨rfl, hm0, hBc⟩ := hcut
        rw [if_neg hm0] at HX
        have hX2 : RdIs R wc s ⟨f, st.pos, st.now⟩ := ⟨(hBc.out.block R (Arr.lt hX.out)).trans hX.out.heap⟩
        have HK2 := Lib.hid (hK.out.next hBc.out)
        have HX2 := Lib.hid hX2
        clear hK hX hBc f1 f2 f3 x0 x1 x2 x3
        obtain ⟨x0, x1, x2, x3⟩ := rd_cells hX2
        have f1 := rd_frozen hX2 1
        have f2 := rd_frozen hX2 2
        have f3 := rd_frozen hX2 3
        have hmT : m ≤ T.size := by have := longB_le (c :: r); rw [hm, List.length_cons] at this; omega
        have i3 : (0 : Int) ≤ (m : Int) := by omega
        have i4 : (m : Int) ≤ (T.size : Int) := by omega
        simp only at x1 x2 x3
        have wr1 : IntKind.i64.wrap ((f : Int) + (m : Int)) = (f : Int) + (m : Int) := wrap_i64 (by omega) (by omega)
        have hEx : T.extract 0 m = s.extract f (f + m) := by
          apply ByteArray.ext
          apply Array.ext'
          rw [ByteArray.data_extract, Array.toList_extract, ByteArray.data_extract, Array.toList_extract]
          show (T.data.toList.drop 0).take (m - 0) = (s.data.toList.drop f).take (f + m - f)
          rw [hTl, List.drop_zero, Nat.sub_zero, Nat.add_sub_cancel_left]
        have HEx := Lib.hid hEx
        clear hX2 hEx hm hL hrl hTl
        go_wp2_with fail
        go_end0
        rw [← HX.out, HEx.out]
        exact ⟨((HK2.out.setCell _).setCell _).setCell _, rfl, rd_set2 (rd_set (i := f + m) HX2.out)⟩
end Go.Proofs.YtfbbkmdhnkmonaaGreatDoor
