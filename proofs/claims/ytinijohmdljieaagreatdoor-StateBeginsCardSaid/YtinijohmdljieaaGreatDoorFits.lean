/- pass.Fits, pass.Make. -/
import Derived.Test.YtinijohmdljieaaGreatDoorMay
import Derived.Test.YtinijohmdljieaaGreatDoorPass
namespace Go.Proofs.YtinijohmdljieaaGreatDoor
open Go.RowKit

def passS (s p : ByteArray) : List UInt8 := passB s.data.toList p.data.toList 4
theorem passS_len (s p : ByteArray) : (passS s p).length = 64 := passB_len _ _ _ (by omega)
def fitsB (n s p : ByteArray) (rs : List ByteArray) (pw : ByteArray) : Bool := mayB n s p rs && wordN pw.size && decide (passS s pw = p.data.toList)
def fitsE (n s p : ByteArray) (rs : List ByteArray) (pw : ByteArray) : Int := if mayB n s p rs then (if wordN pw.size then 0 else 210) else 8
theorem may_salt {n s p : ByteArray} {rs : List ByteArray} (h : mayB n s p rs = true) : s.size ≤ 64 := by
  simp only [mayB, Bool.and_eq_true, decide_eq_true_eq] at h
  omega

set_option maxHeartbeats 4000000 in
set_option maxRecDepth 100000 in
theorem Fits_walk (n s p : ByteArray) (a : Option Addr) (c : Nat) (rs : List ByteArray) (pw : ByteArray) (w : World) (hn : n.size ≤ maxLen) (hs : s.size ≤ maxLen) (hp : p.size ≤ 1000000) (hr : ∀ x ∈ rs, x.size ≤ maxLen) (hl : rs.length ≤ 1000000) (hpw : pw.size ≤ maxLen)
    (h : Strs w.heap.size w (.slice a rs.length c) rs) :
    Calls Tryz.prog 54 #[.agg #[.string n, .string s, .string p, .slice a rs.length c], .string pw] w fun e w' => e = .returned (.tuple #[.bool (fitsB n s p rs pw), .int .i64 (fitsE n s p rs pw)]) ∧ Below w.heap.size w w' := by
  have hb0 : Below w.heap.size w (w.alloc (.cells #[.string n, .string s, .string p, .slice a rs.length c] 25)) := (Below.refl _ _).alloc (Nat.le_refl _) _
  have hz0 : (w.alloc (.cells #[.string n, .string s, .string p, .slice a rs.length c] 25)).heap.size = w.heap.size + 1 := by simp
  have HM := Lib.hid (may_walk n s p a c rs (w.alloc (.cells #[.string n, .string s, .string p, .slice a rs.length c] 25)) hn hs hp hr hl (Row.mono (h.below hb0) hb0.size))
  have HW := Lib.hid (fun W => pass_word pw W hpw)
  have hbox : ∀ W : World, Below (w.heap.size + 1) (w.alloc (.cells #[.string n, .string s, .string p, .slice a rs.length c] 25)) W → W.cell? ⟨w.heap.size, 0, none⟩ = some (.string n) ∧ W.cell? ⟨w.heap.size, 1, none⟩ = some (.string s) ∧ W.cell? ⟨w.heap.size, 2, none⟩ = some (.string p) ∧ W.cell? ⟨w.heap.size, 3, none⟩ = some (.slice a rs.length c) := by
    intro W hb
    refine ⟨?_, ?_, ?_, ?_⟩ <;> (rw [hb.cell (by simp)]; go_simp)
  have HX := Lib.hid hbox; have HZ0 := Lib.hid hz0; have HB0 := Lib.hid hb0
  have HS := Lib.hid (fun h => may_salt (n := n) (s := s) (p := p) (rs := rs) h)
  obtain ⟨rb, hrb⟩ : ∃ r, fitsB n s p rs pw = r := ⟨_, rfl⟩
  obtain ⟨re, hre⟩ : ∃ r, fitsE n s p rs pw = r := ⟨_, rfl⟩
  rw [hrb, hre]
  have hRb : rb = (mayB n s p rs && wordN pw.size && decide (passS s pw = p.data.toList)) := hrb.symm
  have hRe : re = if mayB n s p rs then (if wordN pw.size then 0 else 210) else 8 := hre.symm
  generalize mayB n s p rs = m at *
  have HRb := Lib.hid hRb; have HRe := Lib.hid hRe
  clear hb0 hz0 hbox h hrb hre hRb hRe hr
  cases m
  · have H1 : Hid (rb = false ∧ re = 8) := ⟨by rw [HRb.out]; simp, by rw [HRe.out]; simp⟩
    go_enter Tryz.func54, Tryz.ntmps54
    go_wp2_with fail
    refine HM.out.mono ?_
    rintro e w1 ⟨rfl, hb1⟩
    rw [HZ0.out] at hb1
    have HB1 := Lib.hid (HB0.out.trans (hb1.mono (by omega)))
    clear hb1
    go_wp2_with fail
    go_ret2
    exact ⟨by rw [H1.out.1, H1.out.2]; rfl, HB1.out⟩
  · cases hw : wordN pw.size
    · have H1 : Hid (rb = false ∧ re = 210) := ⟨by rw [HRb.out, hw]; simp, by rw [HRe.out, hw]; simp⟩
      rw [hw] at HW
      clear hw
      go_enter Tryz.func54, Tryz.ntmps54
      go_wp2_with fail
      refine HM.out.mono ?_
      rintro e w1 ⟨rfl, hb1⟩
      rw [HZ0.out] at hb1
      have HB1 := Lib.hid (HB0.out.trans (hb1.mono (by omega)))
      clear hb1
      go_wp2_with fail
      refine (HW.out _).mono ?_
      rintro e w2 ⟨rfl, rfl⟩
      go_wp2_with fail
      go_ret2
      exact ⟨by rw [H1.out.1, H1.out.2]; rfl, HB1.out⟩
    · have H1 : Hid (rb = decide (passS s pw = p.data.toList) ∧ re = 0) := ⟨by rw [HRb.out, hw]; simp, by rw [HRe.out, hw]; simp⟩
      have hsz : s.size ≤ 64 := HS.out rfl
      have hpz : pw.size ≤ 64 := by simp [wordN] at hw; omega
      rw [hw] at HW
      have HP := Lib.hid (fun W => Pass_walk s pw 4 W (by omega) (by omega) (by omega) (by omega))
      have hdl := passS_len s pw
      rw [show passB s.data.toList pw.data.toList 4 = passS s pw from rfl] at HP
      generalize passS s pw = D at HP H1 hdl
      have HDL := Lib.hid hdl
      clear hw hdl
      go_enter Tryz.func54, Tryz.ntmps54
      go_wp2_with fail
      refine HM.out.mono ?_
      rintro e w1 ⟨rfl, hb1⟩
      rw [HZ0.out] at hb1
      obtain ⟨x0, x1, x2, x3⟩ := HX.out w1 hb1
      have HB1 := Lib.hid hb1
      clear hb1
      go_wp2_with fail
      refine (HW.out _).mono ?_
      rintro e w2 ⟨rfl, rfl⟩
      go_wp2_with fail
      refine (HP.out _).mono ?_
      rintro e w3 ⟨rfl, hb3⟩
      have hB3 : Below (w.heap.size + 1) _ w3 := HB1.out.trans (hb3.mono (by have := HB1.out.size; rw [HZ0.out] at this; exact this))
      obtain ⟨y0, y1, y2, y3⟩ := HX.out w3 hB3
      have HB3 : Hid (Below w.heap.size w w3) := HB0.out.trans (hB3.mono (by omega))
      have HZ3 : Hid (w.heap.size < w3.heap.size) := by have := hB3.size; rw [HZ0.out] at this; exact this
      clear hB3 hb3
      obtain ⟨va, ca, w4, cv4, bt4, bl4, sz4⟩ := bytesOf w3 ⟨D.toArray⟩
      obtain ⟨vb, cb, w5, cv5, bt5, bl5, sz5⟩ := bytesOf w4 p
      have z2 : w4.cell? ⟨w.heap.size, 2, none⟩ = some (.string p) := (bl4.cell (p := ⟨w.heap.size, 2, none⟩) HZ3.out).trans y2
      have HSm := Lib.hid (Same_walk _ _ _ _ (w4.heap.size + 1) w5 (Row.mono (Bytes.below (Row.mono bt4 (by omega)) bl5) (by omega)) bt5 (by simp; have := HDL.out; omega) (by rw [ba_len]; exact hp))
      have HB5 : Hid (Below w.heap.size w w5) := (HB3.out.trans (bl4.mono (by have := HZ3.out; omega))).trans (bl5.mono (by have := HZ3.out; omega))
      have HH1 : Hid (rb = decide ((⟨D.toArray⟩ : ByteArray).data.toList = p.data.toList) ∧ re = 0) := H1
      generalize decide ((⟨D.toArray⟩ : ByteArray).data.toList = p.data.toList) = q at HSm HH1
      clear bt4 bl4 sz4 bt5 bl5 sz5 x0 x1 x2 x3 y0 y1 y3 H1
      go_wp2_with fail
      refine HSm.out.mono ?_
      rintro e w6 ⟨rfl, nq, rfl⟩
      go_wp2_with fail
      go_ret2
      exact ⟨by rw [HH1.out.1, HH1.out.2]; rfl, below_drewN HB5.out _⟩
end Go.Proofs.YtinijohmdljieaaGreatDoor
