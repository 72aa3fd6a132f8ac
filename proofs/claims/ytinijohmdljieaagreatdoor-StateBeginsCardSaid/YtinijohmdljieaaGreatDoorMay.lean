/- pass.may. -/
import Derived.Test.YtinijohmdljieaaGreatDoorPassLow
import Derived.Test.YtinijohmdljieaaGreatDoorUnhex
namespace Go.Proofs.YtinijohmdljieaaGreatDoor
open Go.RowKit

def namedS (s : ByteArray) : Bool := named s.data.toList
def mayB (n s p : ByteArray) (rs : List ByteArray) : Bool := namedS n && decide (s.size ≤ 64) && (unhex p.data.toList).isSome && decide (p.size = 64) && decide (rs.length ≤ 32) && rs.all namedS
theorem unhex_len {s b : List UInt8} (h : unhex s = some b) : b.length = s.length / 2 ∧ s.length % 2 = 0 := by
  unfold unhex at h
  split at h
  · rename_i h1
    injection h with h
    rw [← h, uRow_len]
    exact ⟨rfl, h1.1⟩
  · cases h
theorem any_not_all {α : Type} (p : α → Bool) (l : List α) : (!(l.any fun s => !p s)) = l.all p := by
  rw [List.not_any_eq_all_not]; simp

set_option maxHeartbeats 4000000 in
set_option maxRecDepth 100000 in
theorem may_walk (n s p : ByteArray) (a : Option Addr) (c : Nat) (rs : List ByteArray) (w : World) (hn : n.size ≤ maxLen) (hs : s.size ≤ maxLen) (hp : p.size ≤ 1000000) (hr : ∀ x ∈ rs, x.size ≤ maxLen) (hl : rs.length ≤ 1000000)
    (h : Strs w.heap.size w (.slice a rs.length c) rs) :
    Calls Tryz.prog 101 #[.agg #[.string n, .string s, .string p, .slice a rs.length c]] w fun e w' => e = .returned (.bool (mayB n s p rs)) ∧ Below w.heap.size w w' := by
  have hb0 : Below w.heap.size w (w.alloc (.cells #[.string n, .string s, .string p, .slice a rs.length c] 25)) := (Below.refl _ _).alloc (Nat.le_refl _) _
  have hz0 : (w.alloc (.cells #[.string n, .string s, .string p, .slice a rs.length c] 25)).heap.size = w.heap.size + 1 := by simp
  have HU := Lib.hid (Unhex_walk p (w.alloc (.cells #[.string n, .string s, .string p, .slice a rs.length c] 25)) hp)
  have HN := Lib.hid (fun W => pass_named n W hn)
  have HC := Lib.hid (fun (W : World) (hb : Below w.heap.size w W) => containsStrs (.slice a rs.length c) rs (fun s => !namedS s) 144 (enters_of Tryz.func144 (by kernel_rfl) rfl) W hl (fun x hx W' => pass_may1 x W' (hr x hx)) (Row.mono (h.below hb) hb.size))
  have HR := Lib.hid hr; have HZ0 := Lib.hid hz0; have HB0 := Lib.hid hb0
  unfold maxLen at hn hs
  have hbox : ∀ W : World, Below (w.heap.size + 1) (w.alloc (.cells #[.string n, .string s, .string p, .slice a rs.length c] 25)) W → W.cell? ⟨w.heap.size, 0, none⟩ = some (.string n) ∧ W.cell? ⟨w.heap.size, 1, none⟩ = some (.string s) ∧ W.cell? ⟨w.heap.size, 2, none⟩ = some (.string p) ∧ W.cell? ⟨w.heap.size, 3, none⟩ = some (.slice a rs.length c) := by
    intro W hb
    refine ⟨?_, ?_, ?_, ?_⟩ <;> (rw [hb.cell (by simp)]; go_simp)
  have HX := Lib.hid hbox
  obtain ⟨R, hR⟩ : ∃ R, mayB n s p rs = R := ⟨_, rfl⟩
  rw [hR]
  have HRR := Lib.hid hR
  clear h hr hb0 hz0 hbox hR
  by_cases h1 : namedS n = true
  · rw [show named n.data.toList = true from h1] at HN
    by_cases h2 : s.size ≤ 64
    · have d2 : decide ((s.size : Int) ≤ 64) = true := decide_eq_true (by omega)
      cases h3 : unhex p.data.toList with
      | none =>
        have HF : Hid (R = false) := by show _ = _; rw [← HRR.out, mayB, h3]; simp
        rw [h3] at HU
        clear h3 h1
        go_enter Tryz.func101, Tryz.ntmps101
        go_wp2_with fail
        refine HU.out.mono ?_
        rintro e w1 ⟨h1, hb1⟩
        rw [HZ0.out] at hb1
        obtain ⟨x0, x1, x2, x3⟩ := HX.out w1 hb1
        rcases h1 with ⟨-, rfl⟩ | ⟨b, hb, -⟩
        · have HB1 := Lib.hid hb1
          clear hb1
          go_wp2_with fail
          refine (HN.out _).mono ?_
          rintro e w2 ⟨rfl, hb2⟩
          have hB2 : Below (w.heap.size + 1) _ w2 := HB1.out.trans (hb2.mono (by have := HB1.out.size; rw [HZ0.out] at this; exact this))
          obtain ⟨y0, y1, y2, y3⟩ := HX.out w2 hB2
          have HB2 : Hid (Below w.heap.size w w2) := HB0.out.trans (hB2.mono (by omega))
          clear hB2 hb2
          go_wp2_with fail
          go_ret
          exact ⟨ret_bool HF.out.symm, HB2.out⟩
        · cases hb
      | some b =>
        rw [h3] at HU
        have h4 := unhex_len h3
        rw [ba_len] at h4
        by_cases h5 : p.size = 64
        · have d5 : ((b.length : Int) == 32) = true := by simp; omega
          by_cases h6 : rs.length ≤ 32
          · have d6 : decide ((rs.length : Int) ≤ 32) = true := decide_eq_true (by omega)
            have HF : Hid (R = !(rs.any fun s => !namedS s)) := by show _ = _; rw [any_not_all, ← HRR.out, mayB, h3, h1]; simp [h2, h5, h6]
            clear h3 h1 h4
            go_enter Tryz.func101, Tryz.ntmps101
            go_wp2_with fail
            refine HU.out.mono ?_
            rintro e w1 ⟨h1, hb1⟩
            rw [HZ0.out] at hb1
            obtain ⟨x0, x1, x2, x3⟩ := HX.out w1 hb1
            rcases h1 with ⟨hb, -⟩ | ⟨b', hb, rfl, -⟩
            · cases hb
            · injection hb with hb
              subst hb
              have HB1 := Lib.hid hb1
              clear hb1
              go_wp2_with fail
              refine (HN.out _).mono ?_
              rintro e w2 ⟨rfl, hb2⟩
              have hB2 : Below (w.heap.size + 1) _ w2 := HB1.out.trans (hb2.mono (by have := HB1.out.size; rw [HZ0.out] at this; exact this))
              obtain ⟨y0, y1, y2, y3⟩ := HX.out w2 hB2
              have HB2 : Hid (Below w.heap.size w w2) := HB0.out.trans (hB2.mono (by omega))
              clear hB2 hb2
              have HC2 := Lib.hid (HC.out w2 HB2.out)
              generalize rs.any (fun s => !namedS s) = r at HF HC2
              go_wp2_with fail
              refine HC2.out.mono ?_
              rintro e w3 ⟨rfl, hb3⟩
              have HB3 := Lib.hid (HB2.out.trans (hb3.mono HB2.out.size))
              clear hb3
              go_wp2_with fail
              go_ret
              exact ⟨ret_bool HF.out.symm, HB3.out⟩
          · have d6 : decide ((rs.length : Int) ≤ 32) = false := decide_eq_false (by omega)
            have HF : Hid (R = false) := by show _ = _; rw [← HRR.out, mayB]; simp [h6]
            clear h3 h1 h4
            go_enter Tryz.func101, Tryz.ntmps101
            go_wp2_with fail
            refine HU.out.mono ?_
            rintro e w1 ⟨h1, hb1⟩
            rw [HZ0.out] at hb1
            obtain ⟨x0, x1, x2, x3⟩ := HX.out w1 hb1
            rcases h1 with ⟨hb, rfl⟩ | ⟨b', hb, rfl, -⟩
            all_goals first | (exfalso; cases hb; done) | skip
            all_goals
              (try (injection hb with hb; subst hb))
              have HB1 := Lib.hid hb1
              clear hb1
              go_wp2_with fail
              refine (HN.out _).mono ?_
              rintro e w2 ⟨rfl, hb2⟩
              have hB2 : Below (w.heap.size + 1) _ w2 := HB1.out.trans (hb2.mono (by have := HB1.out.size; rw [HZ0.out] at this; exact this))
              obtain ⟨y0, y1, y2, y3⟩ := HX.out w2 hB2
              have HB2 : Hid (Below w.heap.size w w2) := HB0.out.trans (hB2.mono (by omega))
              clear hB2 hb2
              go_wp2_with fail
              go_ret
              exact ⟨ret_bool HF.out.symm, HB2.out⟩
        · have d5 : ((b.length : Int) == 32) = false := by simp; omega
          have HF : Hid (R = false) := by show _ = _; rw [← HRR.out, mayB]; simp [h5]
          clear h3 h1 h4
          go_enter Tryz.func101, Tryz.ntmps101
          go_wp2_with fail
          refine HU.out.mono ?_
          rintro e w1 ⟨h1, hb1⟩
          rw [HZ0.out] at hb1
          obtain ⟨x0, x1, x2, x3⟩ := HX.out w1 hb1
          rcases h1 with ⟨hb, rfl⟩ | ⟨b', hb, rfl, -⟩
          all_goals first | (exfalso; cases hb; done) | skip
          all_goals
            (try (injection hb with hb; subst hb))
            have HB1 := Lib.hid hb1
            clear hb1
            go_wp2_with fail
            refine (HN.out _).mono ?_
            rintro e w2 ⟨rfl, hb2⟩
            have hB2 : Below (w.heap.size + 1) _ w2 := HB1.out.trans (hb2.mono (by have := HB1.out.size; rw [HZ0.out] at this; exact this))
            obtain ⟨y0, y1, y2, y3⟩ := HX.out w2 hB2
            have HB2 : Hid (Below w.heap.size w w2) := HB0.out.trans (hB2.mono (by omega))
            clear hB2 hb2
            go_wp2_with fail
            go_ret
            exact ⟨ret_bool HF.out.symm, HB2.out⟩
    · have d2 : decide ((s.size : Int) ≤ 64) = false := decide_eq_false (by omega)
      have HF : Hid (R = false) := by show _ = _; rw [← HRR.out, mayB]; simp [h2]
      obtain ⟨ux, hux⟩ : ∃ u, unhex p.data.toList = u := ⟨_, rfl⟩
      rw [hux] at HU
      clear hux h1
      go_enter Tryz.func101, Tryz.ntmps101
      go_wp2_with fail
      refine HU.out.mono ?_
      rintro e w1 ⟨h1, hb1⟩
      rw [HZ0.out] at hb1
      obtain ⟨x0, x1, x2, x3⟩ := HX.out w1 hb1
      rcases h1 with ⟨hb, rfl⟩ | ⟨b', hb, rfl, -⟩
      all_goals first | (exfalso; cases hb; done) | skip
      all_goals
        (try (injection hb with hb; subst hb))
        have HB1 := Lib.hid hb1
        clear hb1
        go_wp2_with fail
        refine (HN.out _).mono ?_
        rintro e w2 ⟨rfl, hb2⟩
        have hB2 : Below (w.heap.size + 1) _ w2 := HB1.out.trans (hb2.mono (by have := HB1.out.size; rw [HZ0.out] at this; exact this))
        obtain ⟨y0, y1, y2, y3⟩ := HX.out w2 hB2
        have HB2 : Hid (Below w.heap.size w w2) := HB0.out.trans (hB2.mono (by omega))
        clear hB2 hb2
        go_wp2_with fail
        go_ret
        exact ⟨ret_bool HF.out.symm, HB2.out⟩
  · have h1' : namedS n = false := by simpa using h1
    have HF : Hid (R = false) := by show _ = _; rw [← HRR.out, mayB, h1']; simp
    rw [show named n.data.toList = false from h1'] at HN
    obtain ⟨ux, hux⟩ : ∃ u, unhex p.data.toList = u := ⟨_, rfl⟩
    rw [hux] at HU
    clear hux h1 h1'
    go_enter Tryz.func101, Tryz.ntmps101
    go_wp2_with fail
    refine HU.out.mono ?_
    rintro e w1 ⟨h1, hb1⟩
    rw [HZ0.out] at hb1
    obtain ⟨x0, x1, x2, x3⟩ := HX.out w1 hb1
    rcases h1 with ⟨hb, rfl⟩ | ⟨b', hb, rfl, -⟩
    all_goals first | (exfalso; cases hb; done) | skip
    all_goals
      (try (injection hb with hb; subst hb))
      have HB1 := Lib.hid hb1
      clear hb1
      go_wp2_with fail
      refine (HN.out _).mono ?_
      rintro e w2 ⟨rfl, hb2⟩
      have hB2 : Below (w.heap.size + 1) _ w2 := HB1.out.trans (hb2.mono (by have := HB1.out.size; rw [HZ0.out] at this; exact this))
      obtain ⟨y0, y1, y2, y3⟩ := HX.out w2 hB2
      have HB2 : Hid (Below w.heap.size w w2) := HB0.out.trans (hB2.mono (by omega))
      clear hB2 hb2
      go_wp2_with fail
      go_ret
      exact ⟨ret_bool HF.out.symm, HB2.out⟩
end Go.Proofs.YtinijohmdljieaaGreatDoor
