/- docketref21: names, May. -/
import Derived.Test.YtinijohmdljieaaGreatDoorRefHex
import Derived.Test.YtinijohmdljieaaGreatDoorRefNamed
import Derived.Test.YtinijohmdljieaaGreatDoorFits
namespace Go.Proofs.YtinijohmdljieaaGreatDoor
open Go.RowKit

set_option maxHeartbeats 1000000 in
theorem refNames_walk (v : Value) (xs : List ByteArray) (B : Nat) (w : World) (hl : xs.length ≤ maxLen) (hs : ∀ s ∈ xs, s.size ≤ maxLen) (h : Strs B w v xs) :
    Calls Tryz.prog 72 #[v] w fun e w' => e = .returned (.bool (xs.all namedS)) ∧ w = w' := by
  obtain ⟨a, c, b, o, rfl, -, ha, hc⟩ := h.cells
  have HA := Lib.hid ha; have HC := Lib.hid hc; have HS := Lib.hid hs
  clear h ha hc hs
  unfold maxLen at hl
  obtain ⟨r, hr⟩ : ∃ r, xs.all namedS = r := ⟨_, rfl⟩
  rw [hr]
  have HR := Lib.hid hr
  clear hr
  go_enter Tryz.func72, Tryz.ntmps72
  go_wp2
  go_loop [3] (fun i => ∃ k : Nat, k ≤ xs.length ∧ i = .int .i64 k ∧ Hid ((xs.take k).all namedS = true)) (fun i => xs.length - (intOf i).toNat)
  case atStart => exact ⟨0, by omega, rfl, by simp [Hid]⟩
  case round =>
    obtain ⟨k, hk, rfl, hno⟩ := hrel
    by_cases hlt : k < xs.length
    · obtain ⟨rfl, -⟩ := HA.out (by omega)
      have x0 := HC.out k hlt
      have hn := refNamed xs[k] w (HS.out xs[k] (List.getElem_mem hlt))
      have i1 : (k : Int) < (xs.length : Int) := by omega
      cases hq : namedS xs[k]
      · rw [show named xs[k].data.toList = false from hq] at hn
        have HT : Hid (r = false) := by
          show _ = _
          rw [← HR.out]
          exact List.all_eq_false.2 ⟨xs[k], List.getElem_mem hlt, by simp [hq]⟩
        obtain ⟨s, hs⟩ : ∃ s, xs[k] = s := ⟨_, rfl⟩
        rw [hs] at x0 hn
        have HN := Lib.hid hn
        clear hs hno hq hn
        go_wp2_with fail
        refine HN.out.mono ?_
        rintro e w2 ⟨rfl, rfl⟩
        go_wp2
        go_ret
        exact ⟨ret_bool HT.out.symm, rfl⟩
      · rw [show named xs[k].data.toList = true from hq] at hn
        have HT : Hid ((xs.take (k + 1)).all namedS = true) := by
          show _ = _
          rw [List.take_succ_eq_append_getElem hlt, List.all_append, hno.out]; simp [hq]
        obtain ⟨s, hs⟩ : ∃ s, xs[k] = s := ⟨_, rfl⟩
        rw [hs] at x0 hn
        have HN := Lib.hid hn
        clear hs hno hq hn
        go_wp2_with fail
        refine HN.out.mono ?_
        rintro e w2 ⟨rfl, rfl⟩
        go_wp2
        go_round
        case rel => exact ⟨k + 1, by omega, by go_num, HT⟩
        case measure => simp [intOf]; omega
    · obtain rfl : k = xs.length := by omega
      have HN : Hid (r = true) := by
        show _ = _
        have := hno.out
        rw [List.take_length] at this
        rw [← HR.out, this]
      clear hno
      go_wp2
      go_ret
      exact ⟨ret_bool HN.out.symm, rfl⟩

set_option maxHeartbeats 4000000 in
set_option maxRecDepth 100000 in
theorem refMay_walk (n s p : ByteArray) (a : Option Addr) (c : Nat) (rs : List ByteArray) (w : World) (hn : n.size ≤ maxLen) (hs : s.size ≤ maxLen) (hp : p.size ≤ 1000000) (hr : ∀ x ∈ rs, x.size ≤ maxLen) (hl : rs.length ≤ 1000000)
    (h : Strs w.heap.size w (.slice a rs.length c) rs) :
    Calls Tryz.prog 29 #[.agg #[.string n, .string s, .string p, .slice a rs.length c]] w fun e w' => e = .returned (.bool (mayB n s p rs)) ∧ Below w.heap.size w w' := by
  have hb0 : Below w.heap.size w (w.alloc (.cells #[.string n, .string s, .string p, .slice a rs.length c] 25)) := (Below.refl _ _).alloc (Nat.le_refl _) _
  have hz0 : (w.alloc (.cells #[.string n, .string s, .string p, .slice a rs.length c] 25)).heap.size = w.heap.size + 1 := by simp
  have HU := Lib.hid (refUnhex_walk p (w.alloc (.cells #[.string n, .string s, .string p, .slice a rs.length c] 25)) hp)
  have HN := Lib.hid (fun W => refNamed n W hn)
  have HC := Lib.hid (fun (W : World) (hb : Below w.heap.size w W) => refNames_walk (.slice a rs.length c) rs W.heap.size W (by unfold maxLen; omega) hr (Row.mono (h.below hb) hb.size))
  have HZ0 := Lib.hid hz0; have HB0 := Lib.hid hb0
  unfold maxLen at hn hs
  have hbox : ∀ W : World, Below (w.heap.size + 1) (w.alloc (.cells #[.string n, .string s, .string p, .slice a rs.length c] 25)) W → W.cell? ⟨w.heap.size, 0, none⟩ = some (.string n) ∧ W.cell? ⟨w.heap.size, 1, none⟩ = some (.string s) ∧ W.cell? ⟨w.heap.size, 2, none⟩ = some (.string p) ∧ W.cell? ⟨w.heap.size, 3, none⟩ = some (.slice a rs.length c) := by
    intro W hb
    refine ⟨?_, ?_, ?_, ?_⟩ <;> (rw [hb.cell (by simp)]; go_simp)
  have HX := Lib.hid hbox
  obtain ⟨R, hR⟩ : ∃ R, mayB n s p rs = R := ⟨_, rfl⟩
  rw [hR]
  have HRR := Lib.hid hR
  have hnm : named n.data.toList = namedS n := rfl
  rw [hnm] at HN
  have hux : ∀ b, unhex p.data.toList = some b → True := fun _ _ => trivial
  clear h hr hb0 hz0 hbox hR hnm hux
  have hRd : R = (namedS n && decide (s.size ≤ 64) && (unhex p.data.toList).isSome && decide (p.size = 64) && decide (rs.length ≤ 32) && rs.all namedS) := HRR.out.symm
  have d2 : ∀ b, decide (s.size ≤ 64) = b → decide ((s.size : Int) ≤ 64) = b := fun b h => by rw [← h, Bool.eq_iff_iff]; simp; omega
  have d5 : ∀ b, decide (p.size = 64) = b → ((p.size : Int) == 64) = b := fun b h => by rw [← h, Bool.eq_iff_iff]; simp; omega
  have d6 : ∀ b, decide (rs.length ≤ 32) = b → decide ((rs.length : Int) ≤ 32) = b := fun b h => by rw [← h, Bool.eq_iff_iff]; simp; omega
  generalize namedS n = b1 at *
  generalize hb2 : decide (s.size ≤ 64) = b2 at *
  generalize hb4 : decide (p.size = 64) = b4 at *
  generalize hb5 : decide (rs.length ≤ 32) = b5 at *
  generalize rs.all namedS = b6 at *
  generalize unhex p.data.toList = u at *
  have e2 := d2 b2 rfl; have e5 := d5 b4 rfl; have e6 := d6 b5 rfl
  have HRD := Lib.hid hRd
  clear d2 d5 d6 hRd hb2 hb4 hb5 HRR
  go_enter Tryz.func29, Tryz.ntmps29
  go_wp2_with fail
  refine HU.out.mono ?_
  rintro e w1 ⟨h1, hb1⟩
  rw [HZ0.out] at hb1
  obtain ⟨x0, x1, x2, x3⟩ := HX.out w1 hb1
  have HB1 : Hid (Below w.heap.size w w1) := HB0.out.trans (hb1.mono (by omega))
  clear hb1
  have HC1 := Lib.hid (HC.out w1 HB1.out)
  rcases h1 with ⟨hu, rfl⟩ | ⟨b', va', vc', n', hu, rfl, -⟩
  · have HF : Hid (R = false) := by show _ = _; rw [HRD.out, hu]; simp
    clear hu
    go_wp2_with fail
    refine (HN.out _).mono ?_
    rintro e w2 ⟨rfl, rfl⟩
    cases b1 <;> cases b2 <;>
    · go_wp2_with fail
      go_ret
      exact ⟨ret_bool HF.out.symm, HB1.out⟩
  · have HF : Hid (R = (b1 && b2 && true && b4 && b5 && b6)) := by show _ = _; rw [HRD.out, hu]; rfl
    clear hu
    go_wp2_with fail
    refine (HN.out _).mono ?_
    rintro e w2 ⟨rfl, rfl⟩
    cases b1
    · go_wp2_with fail
      go_ret
      exact ⟨ret_bool (by rw [HF.out]; simp), HB1.out⟩
    cases b2
    · go_wp2_with fail
      go_ret
      exact ⟨ret_bool (by rw [HF.out]; simp), HB1.out⟩
    cases b4
    · go_wp2_with fail
      go_ret
      exact ⟨ret_bool (by rw [HF.out]; simp), HB1.out⟩
    cases b5
    · go_wp2_with fail
      go_ret
      exact ⟨ret_bool (by rw [HF.out]; simp), HB1.out⟩
    go_wp2_with fail
    refine HC1.out.mono ?_
    rintro e w2 ⟨rfl, rfl⟩
    go_wp2_with fail
    go_ret
    exact ⟨ret_bool (by rw [HF.out]; simp), HB1.out⟩
end Go.Proofs.YtinijohmdljieaaGreatDoor
