/- docketlaw21.alive. -/
import Derived.Test.YtflckjabjhmnfaaDoorMake
import Derived.Test.YtflckjabjhmnfaaDoorDigests
import Derived.Test.YtflckjabjhmnfaaDoorGreat
namespace Go.Proofs.YtflckjabjhmnfaaDoor
open Go.RowKit

def annB : ByteArray := ⟨#[97, 110, 110]⟩
def sB : ByteArray := ⟨#[115]⟩
def secretB : ByteArray := ⟨#[115, 101, 99, 114, 101, 116]⟩
def otherB : ByteArray := ⟨#[111, 116, 104, 101, 114]⟩
/-- who was made may be -/
theorem may_made {n s pw : ByteArray} {rs : List ByteArray} (h : makeE n s pw rs = 0) : mayB n s ⟨(passS s pw).toArray⟩ rs = true ∧ wordN pw.size = true := by
  unfold makeE at h
  split at h
  · rename_i h1
    split at h
    · cases h
    · rename_i h2
      split at h
      · rename_i h3
        split at h
        · cases h
        · rename_i h4
          split at h
          · rename_i h5
            have e1 : decide (s.size ≤ 64) = true := decide_eq_true (by omega)
            have e2 : decide (rs.length ≤ 32) = true := decide_eq_true (by omega)
            have e3 : decide ((⟨(passS s pw).toArray⟩ : ByteArray).size = 64) = true := decide_eq_true (passS_len s pw)
            refine ⟨?_, h3⟩
            simp only [mayB]
            rw [h1, e1, e2, e3, h5, show (unhex (passS s pw)).isSome = true from unhex_hexB _]
            rfl
          · cases h
      · cases h
  · cases h
theorem fits_made {n s pw : ByteArray} {rs : List ByteArray} (h : makeE n s pw rs = 0) (pw2 : ByteArray) :
    fitsE n s ⟨(passS s pw).toArray⟩ rs pw2 = (if wordN pw2.size then 0 else 210) ∧ fitsB n s ⟨(passS s pw).toArray⟩ rs pw2 = (wordN pw2.size && decide (passS s pw2 = passS s pw)) := by
  obtain ⟨h1, -⟩ := may_made h
  constructor
  · rw [fitsE, h1, if_pos rfl]
  · rw [fitsB, h1]; simp

theorem strs0 (B : Nat) (w : World) (a : Option Addr) (c : Nat) : Strs B w (.slice a ([] : List ByteArray).length c) [] := ⟨a, c, 0, 0, rfl, by simp, by simp, by simp⟩
theorem fits_ann : fitsE annB sB ⟨(passS sB secretB).toArray⟩ [] secretB = 0 ∧ fitsB annB sB ⟨(passS sB secretB).toArray⟩ [] secretB = true ∧ fitsE annB sB ⟨(passS sB secretB).toArray⟩ [] otherB = 0 ∧ fitsB annB sB ⟨(passS sB secretB).toArray⟩ [] otherB = false := by
  have h : makeE annB sB secretB [] = 0 := by decide +kernel
  obtain ⟨a1, a2⟩ := fits_made h secretB
  obtain ⟨b1, b2⟩ := fits_made h otherB
  refine ⟨by rw [a1]; rfl, by rw [a2]; simp [wordN, secretB]; decide, by rw [b1]; rfl, ?_⟩
  rw [b2]
  have : decide (passS sB otherB = passS sB secretB) = false := decide_eq_false apart_pass
  rw [this]; simp

set_option maxHeartbeats 4000000 in
set_option maxRecDepth 100000 in
theorem alive21_walk (w : World) : Calls Tryd.prog 10 #[] w fun e w' => e = .returned (.bool true) ∧ Below w.heap.size w w' := by
  have hM := Make_walk annB sB secretB none 0 [] w (by decide +kernel) (by decide +kernel) (by decide +kernel) (by simp) (by simp) (strs0 _ _ _ _)
  have HM := Lib.hid hM
  clear hM
  go_enter Tryd.func10, Tryd.ntmps10
  go_wp2_with fail
  refine HM.out.mono ?_
  rintro e w1 ⟨hm, hb1⟩
  rcases hm with ⟨hm, -⟩ | ⟨-, va, vc, rfl, -⟩
  · exact absurd (show makeE annB sB secretB [] = 0 by decide +kernel) hm
  have hF1 := Fits_walk annB sB ⟨(passS sB secretB).toArray⟩ va vc [] secretB (w1.alloc (.cells #[.string annB, .string sB, .string ⟨(passS sB secretB).toArray⟩, .slice va ([] : List ByteArray).length vc] 31)) (by decide +kernel) (by decide +kernel) (by rw [show (⟨(passS sB secretB).toArray⟩ : ByteArray).size = 64 from passS_len _ _]; omega) (by simp) (by simp) (by decide +kernel) (strs0 _ _ _ _)
  have hF2 := fun W => Fits_walk annB sB ⟨(passS sB secretB).toArray⟩ va vc [] otherB W (by decide +kernel) (by decide +kernel) (by rw [show (⟨(passS sB secretB).toArray⟩ : ByteArray).size = 64 from passS_len _ _]; omega) (by simp) (by simp) (by decide +kernel) (strs0 _ _ _ _)
  rw [fits_ann.1, fits_ann.2.1] at hF1
  simp only [fits_ann.2.2.1, fits_ann.2.2.2] at hF2
  generalize passS sB secretB = D at hF1 hF2
  have HF1 := Lib.hid hF1; have HF2 := Lib.hid hF2
  have HB1 := Lib.hid hb1
  clear hF1 hF2 hb1
  go_wp2_with fail
  refine HF1.out.mono ?_
  rintro e w2 ⟨rfl, hb2⟩
  have hc2 : ∀ i, w2.cell? ⟨w1.heap.size, i, none⟩ = (w1.alloc (.cells #[.string annB, .string sB, .string ⟨D.toArray⟩, .slice va ([] : List ByteArray).length vc] 31)).cell? ⟨w1.heap.size, i, none⟩ := fun i => hb2.cell (p := ⟨w1.heap.size, i, none⟩) (by simp)
  have HB2 : Hid (Below w.heap.size w w2) := (HB1.out.alloc HB1.out.size _).trans (hb2.mono (by simp; have := HB1.out.size; omega))
  have x0 : w2.cell? ⟨w1.heap.size, 0, none⟩ = some (.string annB) := by rw [hc2]; go_simp
  have x1 : w2.cell? ⟨w1.heap.size, 1, none⟩ = some (.string sB) := by rw [hc2]; go_simp
  have x2 : w2.cell? ⟨w1.heap.size, 2, none⟩ = some (.string ⟨D.toArray⟩) := by rw [hc2]; go_simp
  have x3 : w2.cell? ⟨w1.heap.size, 3, none⟩ = some (.slice va ([] : List ByteArray).length vc) := by rw [hc2]; go_simp
  clear hb2 hc2
  go_wp2_with fail
  refine (HF2.out _).mono ?_
  rintro e w3 ⟨rfl, hb3⟩
  have HB3 := Lib.hid (HB2.out.trans (hb3.mono HB2.out.size))
  clear hb3
  go_wp2_with fail
  go_ret
  exact ⟨rfl, HB3.out⟩
end Go.Proofs.YtflckjabjhmnfaaDoor
