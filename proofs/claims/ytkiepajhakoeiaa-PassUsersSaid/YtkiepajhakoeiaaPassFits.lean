/- docketlaw21.PassFits returns true. -/
import Derived.Test.YtkiepajhakoeiaaAlive21
namespace Go.Proofs.Ytkiepajhakoeiaa
open Go.RowKit

/-- a slice of strings that is a whole new block -/
theorem strs_new (w : World) (xs : List ByteArray) (t n : Nat) (hn : xs.length = n) : Strs (w.heap.size + 1) (w.alloc (.cells (xs.map Value.string).toArray t)) (.slice (some ⟨w.heap.size, 0, none⟩) n n) xs := by
  subst hn
  refine ⟨some ⟨w.heap.size, 0, none⟩, xs.length, w.heap.size, 0, rfl, Nat.le_refl _, fun _ => ⟨rfl, by omega⟩, fun j x hj => ⟨fun _ => .string x, fun i hi => ?_, rfl⟩⟩
  obtain rfl : i = 0 := by omega
  have := (Arr.new w (xs.map Value.string) t).cell (j := j) (by simp; exact (List.getElem?_eq_some_iff.1 hj).1)
  rw [show 0 + j * 1 + 0 = j by omega, this]
  obtain ⟨h1, h2⟩ := List.getElem?_eq_some_iff.1 hj
  simp [h2]
/-- the user that Make made, in a new block -/
theorem user_cells {w1 w2 : World} {u0 u1 u2 u3 : Value} {t : Nat} (hb : Below (w1.heap.size + 1) (w1.alloc (.cells #[u0, u1, u2, u3] t)) w2) :
    w2.cell? ⟨w1.heap.size, 0, none⟩ = some u0 ∧ w2.cell? ⟨w1.heap.size, 1, none⟩ = some u1 ∧ w2.cell? ⟨w1.heap.size, 2, none⟩ = some u2 ∧ w2.cell? ⟨w1.heap.size, 3, none⟩ = some u3 := by
  refine ⟨?_, ?_, ?_, ?_⟩ <;> (rw [hb.cell (by simp)]; simp [World.cell?, show (w1.alloc (.cells #[u0, u1, u2, u3] t)).heap = w1.heap.push (.cells #[u0, u1, u2, u3] t) from rfl])
theorem new_size (w : World) (o : Obj) : (w.alloc o).heap.size = w.heap.size + 1 := by simp

set_option maxHeartbeats 8000000 in
set_option maxRecDepth 100000 in
theorem passFits_walk (n s pw ot : ByteArray) (a : Option Addr) (c : Nat) (rs : List ByteArray) (w : World) (hn : n.size ≤ maxLen) (hs : s.size ≤ maxLen) (hpw : pw.size ≤ maxLen) (hot : ot.size ≤ maxLen) (hl : rs.length ≤ maxLen) (hr : ∀ x ∈ rs, x.size ≤ maxLen)
    (h : Strs w.heap.size w (.slice a rs.length c) rs) :
    Calls Try.prog 4 #[.string n, .string s, .string pw, .string ot, .slice a rs.length c] w fun e w' => e = .returned (.bool true) ∧ Below w.heap.size w w' := by
  have HA := Lib.hid (alive21_walk w)
  have HG1 := Lib.hid (fun (W : World) => great_walk (.slice (some ⟨W.heap.size, 0, none⟩) 4 4) [n, s, pw, ot] (W.heap.size + 1) (W.alloc (.cells #[.string n, .string s, .string pw, .string ot] 9)) (by unfold maxLen; simp) (by simp; exact ⟨hn, hs, hpw, hot⟩) (strs_new W [n, s, pw, ot] 9 4 rfl))
  have HS := Lib.hid (fun (W : World) (hb : Below w.heap.size w W) => (Row.mono (h.below hb) hb.size : Strs W.heap.size W (.slice a rs.length c) rs))
  have HG2 := Lib.hid (fun (W : World) (hb : Below w.heap.size w W) => great_walk (.slice a rs.length c) rs W.heap.size W hl hr (HS.out W hb))
  clear h
  cases g1 : greatB [n, s, pw, ot]
  · rw [g1] at HG1
    cases g2 : greatB rs
    · rw [g2] at HG2
      obtain ⟨-, q1⟩ := greatB_no g1
      obtain ⟨q2, q3⟩ := greatB_no g2
      have hn1 : n.size ≤ 3000 := q1 _ (by simp)
      have hs1 : s.size ≤ 3000 := q1 _ (by simp)
      have hp1 : pw.size ≤ 3000 := q1 _ (by simp)
      have ho1 : ot.size ≤ 3000 := q1 _ (by simp)
      have HM := Lib.hid (fun (W : World) (hb : Below w.heap.size w W) => Make_walk n s pw a c rs W hn hs hpw hr (by omega) (HS.out W hb))
      have HF := Lib.hid (fun (D : List UInt8) (hD : D.length = 64) (va : Option Addr) (vc : Nat) (x : ByteArray) (hx : x.size ≤ 3000) (W : World) (hSt : Strs W.heap.size W (.slice va rs.length vc) rs) => Fits_walk n s ⟨D.toArray⟩ va vc rs x W hn hs (by show D.length ≤ _; omega) hr (by omega) (by unfold maxLen; omega) hSt)
      have HMD := Lib.hid (fun h => fits_made (n := n) (s := s) (pw := pw) (rs := rs) h)
      have HMM := Lib.hid (fun h => (may_made (n := n) (s := s) (pw := pw) (rs := rs) h).2)
      have HMS := Lib.hid (fun h => may_salt (may_made (n := n) (s := s) (pw := pw) (rs := rs) h).1)
      have HDL := Lib.hid (passS_len s pw)
      clear g1 g2 q1 q3 hr hn hs hpw hot hl
      go_enter Try.func4, Try.ntmps4
      go_wp2_with fail
      refine HA.out.mono ?_
      rintro e w1 ⟨rfl, hb1⟩
      have HB1 := Lib.hid hb1
      clear hb1 HA
      go_wp2_with fail
      refine (HG1.out _).mono ?_
      rintro e w2 ⟨rfl, rfl⟩
      have HB2 : Hid (Below w.heap.size w (w1.alloc (.cells #[.string n, .string s, .string pw, .string ot] 9))) := HB1.out.alloc HB1.out.size _
      go_wp2_with fail
      refine (HG2.out _ HB2.out).mono ?_
      rintro e w3 ⟨rfl, rfl⟩
      go_wp2_with fail
      refine (HM.out _ HB2.out).mono ?_
      rintro e w4 ⟨hm, hb4⟩
      have HB4 := Lib.hid (HB2.out.trans (hb4.mono HB2.out.size))
      rcases hm with ⟨hne, rfl⟩ | ⟨hm0, va, vc, rfl, hO⟩
      · clear hb4
        generalize makeE n s pw rs = E at *
        have hE : (E != 0) = true := by simpa using hne
        clear hne
        go_wp2_with fail
        go_ret
        exact ⟨rfl, HB4.out.alloc HB4.out.size _⟩
      · obtain ⟨f1, f2⟩ := HMD.out hm0 pw
        obtain ⟨f3, f4⟩ := HMD.out hm0 ot
        have hw1 := HMM.out hm0
        have hs64 := HMS.out hm0
        have hpw64 : pw.size ≤ 64 := by simp [wordN] at hw1; omega
        have HO : Hid (∀ W, Below w4.heap.size w4 W → Strs W.heap.size W (.slice va rs.length vc) rs) := fun W hb => Row.mono ((hO.strs (Nat.le_refl _)).below hb) hb.size
        rw [hw1, if_pos rfl] at f1
        rw [hw1] at f2
        have hP1 := fun W => Pass_walk s pw 4 W (by omega) (by omega) (by omega) (by omega)
        have hP2 := fun (W : World) (ho : ot.size ≤ 64) => Pass_walk s ot 4 W (by omega) (by omega) (by omega) (by omega)
        rw [show passB s.data.toList pw.data.toList 4 = passS s pw from rfl] at hP1
        simp only [show passB s.data.toList ot.data.toList 4 = passS s ot from rfl] at hP2
        have hF1 := fun va vc W hSt => HF.out (passS s pw) HDL.out va vc pw hp1 W hSt
        have hF2 := fun va vc W hSt => HF.out (passS s pw) HDL.out va vc ot ho1 W hSt
        simp only [f1, f2, decide_true, Bool.and_self] at hF1
        simp only [f3, f4] at hF2
        generalize passS s pw = D1 at *
        generalize passS s ot = D2 at *
        have HP1 := Lib.hid hP1; have HP2 := Lib.hid hP2; have HF1 := Lib.hid hF1; have HF2 := Lib.hid hF2
        have HB4' := Lib.hid hb4
        clear f1 f2 f3 f4 hw1 hs64 hP1 hP2 hF1 hF2 HF HMD HMM HMS HDL hO hb4 hm0 HM HG1 HG2
        by_cases ho0 : ot.size = 0
        · have e1 : wordN ot.size = false := by simp [wordN, ho0]
          have e2 : ot.toList.isEmpty = true := by rw [ba_empty, List.isEmpty_iff]; exact List.eq_nil_of_length_eq_zero (by rw [ba_len]; exact ho0)
          simp only [e1, Bool.false_and] at HF2
          clear e1
          go_wp2_with fail
          refine (HF1.out _ _ _ (HO.out _ ((Below.refl _ _).alloc (Nat.le_refl _) _))).mono ?_
          rintro e w5 ⟨rfl, hb5⟩
          rw [new_size] at hb5
          obtain ⟨x0, x1, x2, x3⟩ := user_cells hb5
          have HB5' := Lib.hid hb5
          have HO5 := Lib.hid (HO.out w5 (((Below.refl w4.heap.size w4).alloc (Nat.le_refl _) _).trans (hb5.mono (by omega))))
          clear hb5
          go_wp2_with fail
          refine (HF2.out _ _ _ HO5.out).mono ?_
          rintro e w6 ⟨rfl, hb6⟩
          have hb6' := HB5'.out.trans (hb6.mono (by have := HB5'.out.size; rw [new_size] at this; exact this))
          obtain ⟨y0, y1, y2, y3⟩ := user_cells hb6'
          have HB6 : Hid (Below w.heap.size w w6) := (HB4.out.alloc HB4.out.size _).trans (hb6'.mono (by have := HB4.out.size; omega))
          clear hb6 hb6' x0 x1 x2 x3
          go_wp2_with fail
          go_ret
          exact ⟨rfl, HB6.out⟩
        · have e2 : ot.toList.isEmpty = false := by
            rw [ba_empty]
            cases h : ot.data.toList with
            | nil => exact absurd (by rw [← ba_len, h]; rfl) ho0
            | cons => rfl
          by_cases ho64 : 64 < ot.size
          · have e1 : wordN ot.size = false := by simp [wordN]; omega
            have e3 : decide (64 < (ot.size : Int)) = true := decide_eq_true (by omega)
            simp only [e1, Bool.false_and] at HF2
            clear e1
            go_wp2_with fail
            refine (HF1.out _ _ _ (HO.out _ ((Below.refl _ _).alloc (Nat.le_refl _) _))).mono ?_
            rintro e w5 ⟨rfl, hb5⟩
            rw [new_size] at hb5
            obtain ⟨x0, x1, x2, x3⟩ := user_cells hb5
            have HB5' := Lib.hid hb5
            have HO5 := Lib.hid (HO.out w5 (((Below.refl w4.heap.size w4).alloc (Nat.le_refl _) _).trans (hb5.mono (by omega))))
            clear hb5
            go_wp2_with fail
            refine (HF2.out _ _ _ HO5.out).mono ?_
            rintro e w6 ⟨rfl, hb6⟩
            have hb6' := HB5'.out.trans (hb6.mono (by have := HB5'.out.size; rw [new_size] at this; exact this))
            obtain ⟨y0, y1, y2, y3⟩ := user_cells hb6'
            have HB6 : Hid (Below w.heap.size w w6) := (HB4.out.alloc HB4.out.size _).trans (hb6'.mono (by have := HB4.out.size; omega))
            clear hb6 hb6' x0 x1 x2 x3
            go_wp2_with fail
            go_ret
            exact ⟨rfl, HB6.out⟩
          · have e1 : wordN ot.size = true := by simp [wordN]; omega
            have e3 : decide (64 < (ot.size : Int)) = false := decide_eq_false (by omega)
            simp only [e1, Bool.true_and, if_true] at HF2
            clear e1
            have hq : (D1 == D2) = decide (D2 = D1) := by
              rw [Bool.eq_iff_iff]
              simp only [beq_iff_eq, decide_eq_true_eq]
              exact eq_comm
            generalize decide (D2 = D1) = q at hq HF2
            have ho : ot.size ≤ 64 := by omega
            go_wp2_with fail
            refine (HF1.out _ _ _ (HO.out _ ((Below.refl _ _).alloc (Nat.le_refl _) _))).mono ?_
            rintro e w5 ⟨rfl, hb5⟩
            rw [new_size] at hb5
            obtain ⟨x0, x1, x2, x3⟩ := user_cells hb5
            have HB5' := Lib.hid hb5
            have HO5 := Lib.hid (HO.out w5 (((Below.refl w4.heap.size w4).alloc (Nat.le_refl _) _).trans (hb5.mono (by omega))))
            clear hb5
            go_wp2_with fail
            refine (HF2.out _ _ _ HO5.out).mono ?_
            rintro e w6 ⟨rfl, hb6⟩
            have hb6' := HB5'.out.trans (hb6.mono (by have := HB5'.out.size; rw [new_size] at this; exact this))
            obtain ⟨y0, y1, y2, y3⟩ := user_cells hb6'
            have HB6 : Hid (Below w.heap.size w w6) := (HB4.out.alloc HB4.out.size _).trans (hb6'.mono (by have := HB4.out.size; omega))
            clear hb6 hb6' x0 x1 x2 x3
            go_wp2_with fail
            refine (HP1.out _).mono ?_
            rintro e w7 ⟨rfl, hb7⟩
            have HB7 := Lib.hid (HB6.out.trans (hb7.mono HB6.out.size))
            clear hb7
            go_wp2_with fail
            refine (HP2.out _ ho).mono ?_
            rintro e w8 ⟨rfl, hb8⟩
            have HB8 := Lib.hid (HB7.out.trans (hb8.mono HB7.out.size))
            clear hb8
            go_wp2_with fail
            go_ret
            exact ⟨ret_bool (by simp), HB8.out⟩
    · rw [g2] at HG2
      clear g1 g2 hr hn hs hpw hot hl
      go_enter Try.func4, Try.ntmps4
      go_wp2_with fail
      refine HA.out.mono ?_
      rintro e w1 ⟨rfl, hb1⟩
      have HB1 := Lib.hid hb1
      clear hb1 HA
      go_wp2_with fail
      refine (HG1.out _).mono ?_
      rintro e w2 ⟨rfl, rfl⟩
      have HB2 : Hid (Below w.heap.size w (w1.alloc (.cells #[.string n, .string s, .string pw, .string ot] 9))) := HB1.out.alloc HB1.out.size _
      go_wp2_with fail
      refine (HG2.out _ HB2.out).mono ?_
      rintro e w3 ⟨rfl, rfl⟩
      go_wp2_with fail
      go_ret
      exact ⟨rfl, HB2.out⟩
  · rw [g1] at HG1
    clear g1 hr hn hs hpw hot hl
    go_enter Try.func4, Try.ntmps4
    go_wp2_with fail
    refine HA.out.mono ?_
    rintro e w1 ⟨rfl, hb1⟩
    have HB1 := Lib.hid hb1
    clear hb1 HA
    go_wp2_with fail
    refine (HG1.out _).mono ?_
    rintro e w2 ⟨rfl, rfl⟩
    have HB2 : Hid (Below w.heap.size w (w1.alloc (.cells #[.string n, .string s, .string pw, .string ot] 9))) := HB1.out.alloc HB1.out.size _
    go_wp2_with fail
    go_ret
    exact ⟨rfl, HB2.out⟩
end Go.Proofs.Ytkiepajhakoeiaa
