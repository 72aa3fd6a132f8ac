/- docketlaw21.great and docketlaw21.alive. -/
import Derived.Test.YtkiepajhakoeiaaMake
import Derived.Test.YtkiepajhakoeiaaDigests
namespace Go.Proofs.Ytkiepajhakoeiaa
open Go.RowKit

def annB : ByteArray := ⟨#[97, 110, 110]⟩
def sB : ByteArray := ⟨#[115]⟩
def secretB : ByteArray := ⟨#[115, 101, 99, 114, 101, 116]⟩
def otherB : ByteArray := ⟨#[111, 116, 104, 101, 114]⟩
theorem hv_hx (n : Nat) (h : n < 16) : 0 ≤ hv (hx n) := by
  have : ∀ n : Fin 16, 0 ≤ hv (hx n.val) := by decide +kernel
  exact this ⟨n, h⟩
theorem unhex_hexB (bs : List UInt8) : (unhex (hexB bs)).isSome = true := by
  rw [unhex, if_pos]
  · rfl
  · refine ⟨by rw [hexB_len]; omega, List.all_eq_true.2 fun c hc => ?_⟩
    obtain ⟨b, -, hb⟩ := List.mem_flatMap.1 hc
    have hl := b.toNat_lt
    simp only [List.mem_cons, List.not_mem_nil, or_false] at hb
    rcases hb with rfl | rfl
    · simpa using hv_hx _ (by omega)
    · simpa using hv_hx _ (by omega)
/-- who was made may be -/
theorem may_made {n s pw : ByteArray} {rs : List ByteArray} (h : makeE n s pw rs = 0) : mayB n s ⟨(passS s pw).toArray⟩ rs = true ∧ wordN pw.size = true := by
  unfold makeE at h
  split at h
  · rename_i h1
    split at h
    · cases h
    · rename_i h2
      split at h
      · rename_i h3
        split at h
        · cases h
        · rename_i h4
          split at h
          · rename_i h5
            have e1 : decide (s.size ≤ 64) = true := decide_eq_true (by omega)
            have e2 : decide (rs.length ≤ 32) = true := decide_eq_true (by omega)
            have e3 : decide ((⟨(passS s pw).toArray⟩ : ByteArray).size = 64) = true := decide_eq_true (passS_len s pw)
            refine ⟨?_, h3⟩
            simp only [mayB]
            rw [h1, e1, e2, e3, h5, show (unhex (passS s pw)).isSome = true from unhex_hexB _]
            rfl
          · cases h
      · cases h
  · cases h
theorem fits_made {n s pw : ByteArray} {rs : List ByteArray} (h : makeE n s pw rs = 0) (pw2 : ByteArray) :
    fitsE n s ⟨(passS s pw).toArray⟩ rs pw2 = (if wordN pw2.size then 0 else 210) ∧ fitsB n s ⟨(passS s pw).toArray⟩ rs pw2 = (wordN pw2.size && decide (passS s pw2 = passS s pw)) := by
  obtain ⟨h1, -⟩ := may_made h
  constructor
  · rw [fitsE, h1, if_pos rfl]
  · rw [fitsB, h1]; simp

def greatB (xs : List ByteArray) : Bool := decide (100 < xs.length) || xs.any fun s => decide (3000 < s.size)
theorem greatB_no {xs : List ByteArray} (h : greatB xs = false) : xs.length ≤ 100 ∧ ∀ s ∈ xs, s.size ≤ 3000 := by
  simp only [greatB, Bool.or_eq_false_iff, decide_eq_false_iff_not, List.any_eq_false, decide_eq_true_eq] at h
  exact ⟨by omega, fun s hs => by have := h.2 s hs; omega⟩

set_option maxHeartbeats 1000000 in
theorem great_walk (v : Value) (xs : List ByteArray) (B : Nat) (w : World) (hl : xs.length ≤ maxLen) (hs : ∀ s ∈ xs, s.size ≤ maxLen) (h : Strs B w v xs) :
    Calls Try.prog 5 #[v] w fun e w' => e = .returned (.bool (greatB xs)) ∧ w = w' := by
  obtain ⟨a, c, b, o, rfl, -, ha, hc⟩ := h.cells
  have HA := Lib.hid ha; have HC := Lib.hid hc; have HS := Lib.hid hs
  clear h ha hc hs
  unfold maxLen at hl
  obtain ⟨r, hr⟩ : ∃ r, greatB xs = r := ⟨_, rfl⟩
  rw [hr]
  have HR := Lib.hid hr
  clear hr
  by_cases h1 : 100 < xs.length
  · have d1 : decide (100 < (xs.length : Int)) = true := decide_eq_true (by omega)
    have HF : Hid (r = true) := by show _ = _; rw [← HR.out, greatB]; simp [h1]
    go_enter Try.func5, Try.ntmps5
    go_wp2
    go_ret
    exact ⟨ret_bool HF.out.symm, rfl⟩
  · have d1 : decide (100 < (xs.length : Int)) = false := decide_eq_false (by omega)
    have HF : Hid (r = xs.any fun s => decide (3000 < s.size)) := by show _ = _; rw [← HR.out, greatB]; simp [h1]
    go_enter Try.func5, Try.ntmps5
    go_wp2
    go_loop [3] (fun i => ∃ k : Nat, k ≤ xs.length ∧ i = .int .i64 k ∧ Hid ((xs.take k).any (fun s => decide (3000 < s.size)) = false)) (fun i => xs.length - (intOf i).toNat)
    case atStart => exact ⟨0, by omega, rfl, by simp [Hid]⟩
    case round =>
      obtain ⟨k, hk, rfl, hno⟩ := hrel
      by_cases hlt : k < xs.length
      · obtain ⟨rfl, -⟩ := HA.out (by omega)
        have x0 := HC.out k hlt
        have hsz := HS.out xs[k] (List.getElem_mem hlt)
        unfold maxLen at hsz
        have i1 : (k : Int) < (xs.length : Int) := by omega
        by_cases h3 : 3000 < xs[k].size
        · have HT : Hid (r = true) := by
            show _ = _
            rw [HF.out]
            exact List.any_eq_true.2 ⟨xs[k], List.getElem_mem hlt, by simpa using h3⟩
          obtain ⟨s, hs⟩ : ∃ s, xs[k] = s := ⟨_, rfl⟩
          rw [hs] at x0 hsz h3
          have d3 : decide (3000 < (s.size : Int)) = true := decide_eq_true (by omega)
          clear hs hno h3
          go_wp2
          go_ret
          exact ⟨ret_bool HT.out.symm, rfl⟩
        · have HN : Hid ((xs.take (k + 1)).any (fun s => decide (3000 < s.size)) = false) := by
            show _ = _
            rw [List.take_succ_eq_append_getElem hlt, List.any_append, hno.out]; simp; omega
          obtain ⟨s, hs⟩ : ∃ s, xs[k] = s := ⟨_, rfl⟩
          rw [hs] at x0 hsz h3
          have d3 : decide (3000 < (s.size : Int)) = false := decide_eq_false (by omega)
          clear hs hno h3
          go_wp2
          go_round
          case rel => exact ⟨k + 1, by omega, by go_num, HN⟩
          case measure => simp [intOf]; omega
      · obtain rfl : k = xs.length := by omega
        have HN : Hid (r = false) := by
          show _ = _
          have := hno.out
          rw [List.take_length] at this
          rw [HF.out, this]
        clear hno
        go_wp2
        go_ret
        exact ⟨ret_bool HN.out.symm, rfl⟩

theorem strs0 (B : Nat) (w : World) (a : Option Addr) (c : Nat) : Strs B w (.slice a ([] : List ByteArray).length c) [] := ⟨a, c, 0, 0, rfl, by simp, by simp, by simp⟩
theorem fits_ann : fitsE annB sB ⟨(passS sB secretB).toArray⟩ [] secretB = 0 ∧ fitsB annB sB ⟨(passS sB secretB).toArray⟩ [] secretB = true ∧ fitsE annB sB ⟨(passS sB secretB).toArray⟩ [] otherB = 0 ∧ fitsB annB sB ⟨(passS sB secretB).toArray⟩ [] otherB = false := by
  have h : makeE annB sB secretB [] = 0 := by decide +kernel
  obtain ⟨a1, a2⟩ := fits_made h secretB
  obtain ⟨b1, b2⟩ := fits_made h otherB
  refine ⟨by rw [a1]; rfl, by rw [a2]; simp [wordN, secretB]; decide, by rw [b1]; rfl, ?_⟩
  rw [b2]
  have : decide (passS sB otherB = passS sB secretB) = false := decide_eq_false apart_pass
  rw [this]; simp

set_option maxHeartbeats 4000000 in
set_option maxRecDepth 100000 in
theorem alive21_walk (w : World) : Calls Try.prog 11 #[] w fun e w' => e = .returned (.bool true) ∧ Below w.heap.size w w' := by
  have hM := Make_walk annB sB secretB none 0 [] w (by decide +kernel) (by decide +kernel) (by decide +kernel) (by simp) (by simp) (strs0 _ _ _ _)
  have HM := Lib.hid hM
  clear hM
  go_enter Try.func11, Try.ntmps11
  go_wp2_with fail
  refine HM.out.mono ?_
  rintro e w1 ⟨hm, hb1⟩
  rcases hm with ⟨hm, -⟩ | ⟨-, va, vc, rfl, -⟩
  · exact absurd (show makeE annB sB secretB [] = 0 by decide +kernel) hm
  have hF1 := Fits_walk annB sB ⟨(passS sB secretB).toArray⟩ va vc [] secretB (w1.alloc (.cells #[.string annB, .string sB, .string ⟨(passS sB secretB).toArray⟩, .slice va ([] : List ByteArray).length vc] 24)) (by decide +kernel) (by decide +kernel) (by rw [show (⟨(passS sB secretB).toArray⟩ : ByteArray).size = 64 from passS_len _ _]; omega) (by simp) (by simp) (by decide +kernel) (strs0 _ _ _ _)
  have hF2 := fun W => Fits_walk annB sB ⟨(passS sB secretB).toArray⟩ va vc [] otherB W (by decide +kernel) (by decide +kernel) (by rw [show (⟨(passS sB secretB).toArray⟩ : ByteArray).size = 64 from passS_len _ _]; omega) (by simp) (by simp) (by decide +kernel) (strs0 _ _ _ _)
  rw [fits_ann.1, fits_ann.2.1] at hF1
  simp only [fits_ann.2.2.1, fits_ann.2.2.2] at hF2
  generalize passS sB secretB = D at hF1 hF2
  have HF1 := Lib.hid hF1; have HF2 := Lib.hid hF2
  have HB1 := Lib.hid hb1
  clear hF1 hF2 hb1
  go_wp2_with fail
  refine HF1.out.mono ?_
  rintro e w2 ⟨rfl, hb2⟩
  have hc2 : ∀ i, w2.cell? ⟨w1.heap.size, i, none⟩ = (w1.alloc (.cells #[.string annB, .string sB, .string ⟨D.toArray⟩, .slice va ([] : List ByteArray).length vc] 24)).cell? ⟨w1.heap.size, i, none⟩ := fun i => hb2.cell (p := ⟨w1.heap.size, i, none⟩) (by simp)
  have HB2 : Hid (Below w.heap.size w w2) := (HB1.out.alloc HB1.out.size _).trans (hb2.mono (by simp; have := HB1.out.size; omega))
  have x0 : w2.cell? ⟨w1.heap.size, 0, none⟩ = some (.string annB) := by rw [hc2]; go_simp
  have x1 : w2.cell? ⟨w1.heap.size, 1, none⟩ = some (.string sB) := by rw [hc2]; go_simp
  have x2 : w2.cell? ⟨w1.heap.size, 2, none⟩ = some (.string ⟨D.toArray⟩) := by rw [hc2]; go_simp
  have x3 : w2.cell? ⟨w1.heap.size, 3, none⟩ = some (.slice va ([] : List ByteArray).length vc) := by rw [hc2]; go_simp
  clear hb2 hc2
  go_wp2_with fail
  refine (HF2.out _).mono ?_
  rintro e w3 ⟨rfl, hb3⟩
  have HB3 := Lib.hid (HB2.out.trans (hb3.mono HB2.out.size))
  clear hb3
  go_wp2_with fail
  go_ret
  exact ⟨rfl, HB3.out⟩
end Go.Proofs.Ytkiepajhakoeiaa
