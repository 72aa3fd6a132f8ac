/- docketlaw17: same. -/
import Derived.Deep.RegionHeld3
import Derived.Deep.RegionWith
import Derived.Test.YtkmgbkcpjlilpaaDoorRfSame
namespace Go.Proofs.YtkmgbkcpjlilpaaDoor
open Go.RowKit

set_option maxHeartbeats 4000000 in
set_option maxRecDepth 100000 in
theorem lwSame_walk : ∀ (d : Nat) (g h : GD) (cs ds : List Value) (w : World), g.deep ≤ d → GIn w g cs → GIn w h ds →
    Calls Tryd.prog 11 #[.agg cs.toArray, .agg ds.toArray] w (SameEnd g h w)
  | 0, g, _, _, _, _, h, _, _ => by rw [g.deep_eq] at h; omega
  | d + 1, g, h, cs, ds, w, hd, hg, hh => by
    have HIH := Lib.hid (fun (g h : GD) (cs ds : List Value) (w : World) (h1 : g.deep ≤ d) (h2 : GIn w g cs) (h3 : GIn w h ds) => lwSame_walk d g h cs ds w h1 h2 h3)
    obtain ⟨k, n, sx, a, c, b, off, heg, rfl, hl, -, hb, hk⟩ := hg.kid
    obtain ⟨k', n', sx', a', c', b', off', heh, rfl, hl', -, hb', hk'⟩ := hh.kid
    have HK := Lib.hid hk
    have HK' := Lib.hid hk'
    have HKD := Lib.hid (fun m (h : m < g.kids.length) => (show g.kids[m].deep ≤ d by have := deeps_mem (List.getElem_mem h); have := g.deep_eq; omega))
    have HEQ : Hid (g = h ↔ k = k' ∧ n = n' ∧ sx = sx' ∧ g.kids = h.kids) := by
      show _ ↔ _
      rw [heg, heh]
      exact gd_eq
    obtain ⟨l, hl2⟩ : ∃ l, g.kids.length = l := ⟨_, rfl⟩
    obtain ⟨l', hl2'⟩ : ∃ l, h.kids.length = l := ⟨_, rfl⟩
    rw [hl2] at hb hl ⊢
    rw [hl2'] at hb' hl' ⊢
    have HL := Lib.hid hl2
    have HL' := Lib.hid hl2'
    unfold maxLen at hl hl'
    obtain ⟨w1, hw1⟩ : ∃ w1, (w.alloc (.cells #[.int .u8 k, .int .i64 n, .string sx, .slice a l c] 24)).alloc (.cells #[.int .u8 k', .int .i64 n', .string sx', .slice a' l' c'] 24) = w1 := ⟨_, rfl⟩
    have hb1 : Below w.heap.size w w1 := hw1 ▸ ((Below.refl _ _).alloc (Nat.le_refl _) _).alloc (by rw [size_alloc]; omega) _
    have hx1 : w1.cell? ⟨w.heap.size, 3, none⟩ = some (.slice a l c) := hw1 ▸ ((Arr.new w [.int .u8 k, .int .i64 n, .string sx, .slice a l c] _).alloc _).cell (j := 3) (by simp)
    have hy1 : w1.cell? ⟨w.heap.size + 1, 3, none⟩ = some (.slice a' l' c') := by
      have := (Arr.new (w.alloc (.cells #[.int .u8 k, .int .i64 n, .string sx, .slice a l c] 24)) [.int .u8 k', .int .i64 n', .string sx', .slice a' l' c'] 24).cell (j := 3) (by simp)
      rw [size_alloc] at this
      exact hw1 ▸ this
    have HB1 := Lib.hid hb1
    have HX1 := Lib.hid hx1
    have HY1 := Lib.hid hy1
    have HW1 := Lib.hid hw1
    clear hk hk' hl2 hl2' hg hh heg heh hb1 hx1 hy1 hw1
    by_cases h0 : k = k'
    rotate_left
    · have e0 : ((k : Int) != (k' : Int)) = true := by rw [bne_iff_ne]; omega
      have HF : Hid (¬ g = h) := fun he => h0 (HEQ.out.1 he).1
      clear h0
      go_enter Tryd.func11, Tryd.ntmps11
      go_wp2_with fail
      go_ret
      exact ⟨false, rfl, ⟨fun h => absurd h (by decide), fun h => absurd h HF.out⟩, HW1.out ▸ HB1.out⟩
    have e0 : ((k : Int) != (k' : Int)) = false := by rw [bne_eq_false_iff_eq]; omega
    by_cases hn : n = n'
    rotate_left
    · have e1 : (n != n') = true := by rw [bne_iff_ne]; exact hn
      have HF : Hid (¬ g = h) := fun he => hn (HEQ.out.1 he).2.1
      have H0 := Lib.hid h0
      clear h0 hn
      go_enter Tryd.func11, Tryd.ntmps11
      go_wp2_with fail
      go_ret
      exact ⟨false, rfl, ⟨fun h => absurd h (by decide), fun h => absurd h HF.out⟩, HW1.out ▸ HB1.out⟩
    have e1 : (n != n') = false := by rw [bne_eq_false_iff_eq]; exact hn
    by_cases hs : sx = sx'
    rotate_left
    · have e2 : (sx.toList == sx'.toList) = false := by rw [ba_eq]; exact decide_eq_false hs
      have HF : Hid (¬ g = h) := fun he => hs (HEQ.out.1 he).2.2.1
      clear h0 hn hs
      go_enter Tryd.func11, Tryd.ntmps11
      go_wp2_with fail
      go_ret
      exact ⟨false, rfl, ⟨fun h => absurd h (by decide), fun h => absurd h HF.out⟩, HW1.out ▸ HB1.out⟩
    have e2 : (sx.toList == sx'.toList) = true := by rw [ba_eq]; exact decide_eq_true hs
    by_cases hll : l = l'
    rotate_left
    · have e3 : ((l : Int) != (l' : Int)) = true := by rw [bne_iff_ne]; omega
      have HF : Hid (¬ g = h) := fun he => hll (by rw [← HL.out, ← HL'.out, (HEQ.out.1 he).2.2.2])
      clear h0 hn hs hll
      go_enter Tryd.func11, Tryd.ntmps11
      go_wp2_with fail
      go_ret
      exact ⟨false, rfl, ⟨fun h => absurd h (by decide), fun h => absurd h HF.out⟩, HW1.out ▸ HB1.out⟩
    have HE2 : Hid (g = h ↔ g.kids = h.kids) := HEQ.out.trans ⟨fun h => h.2.2.2, fun h => ⟨h0, hn, hs, h⟩⟩
    obtain rfl := hll
    have e3 : ((l : Int) != (l : Int)) = false := by simp
    clear h0 hn hs
    go_enter Tryd.func11, Tryd.ntmps11
    go_wp2_with fail
    rw [HW1.out]
    clear e0 e1 e2 e3
    go_loopw [5] (fun i wr => ∃ m : Nat, m ≤ l ∧ i = .int .i64 (m : Int) ∧ Hid (∀ j (h1 : j < m) (h2 : j < g.kids.length) (h3 : j < h.kids.length), g.kids[j] = h.kids[j]) ∧ Hid (Below w1.heap.size w1 wr)) (fun i _ => l - (intOf i).toNat)
    case atStart => exact ⟨0, Nat.zero_le _, rfl, fun j h1 => absurd h1 (Nat.not_lt_zero _), Below.refl _ _⟩
    case round =>
      obtain ⟨m, hm, rfl, HALL, HB⟩ := hrel
      have z3 := (HB.out.cell (p := ⟨w.heap.size, 3, none⟩) (World.block_lt_of_cell? w1 _ HX1.out)).trans HX1.out
      have z3' := (HB.out.cell (p := ⟨w.heap.size + 1, 3, none⟩) (World.block_lt_of_cell? w1 _ HY1.out)).trans HY1.out
      have HBB := Lib.hid (HB1.out.trans (HB.out.mono HB1.out.size))
      by_cases hml : m < l
      · obtain ⟨rfl, hbl⟩ := hb (by omega)
        obtain ⟨rfl, hbl'⟩ := hb' (by omega)
        have i1 : (m : Int) < (l : Int) := by omega
        have i2 : (0 : Int) ≤ (m : Int) := by omega
        have hmk : m < g.kids.length := by rw [HL.out]; exact hml
        have hmk' : m < h.kids.length := by rw [HL'.out]; exact hml
        obtain ⟨c0, c1, c2, c3, y0, y1, y2, y3, hgi⟩ := HK.out m hmk
        obtain ⟨d0, d1, d2, d3, u0, u1, u2, u3, hgi'⟩ := HK'.out m hmk'
        replace y0 := (HBB.out.cell (p := ⟨b, off + m * 4, none⟩) hbl).trans y0
        replace y1 := (HBB.out.cell (p := ⟨b, off + m * 4 + 1, none⟩) hbl).trans y1
        replace y2 := (HBB.out.cell (p := ⟨b, off + m * 4 + 2, none⟩) hbl).trans y2
        replace y3 := (HBB.out.cell (p := ⟨b, off + m * 4 + 3, none⟩) hbl).trans y3
        replace u0 := (HBB.out.cell (p := ⟨b', off' + m * 4, none⟩) hbl').trans u0
        replace u1 := (HBB.out.cell (p := ⟨b', off' + m * 4 + 1, none⟩) hbl').trans u1
        replace u2 := (HBB.out.cell (p := ⟨b', off' + m * 4 + 2, none⟩) hbl').trans u2
        replace u3 := (HBB.out.cell (p := ⟨b', off' + m * 4 + 3, none⟩) hbl').trans u3
        obtain ⟨k2, n2, s2, a2, l2, cc2, he⟩ := hgi.four
        simp only [List.cons.injEq, and_true] at he
        obtain ⟨rfl, rfl, rfl, rfl⟩ := he
        obtain ⟨k3, n3, s3, a3, l3, cc3, he⟩ := hgi'.four
        simp only [List.cons.injEq, and_true] at he
        obtain ⟨rfl, rfl, rfl, rfl⟩ := he
        have HIH2 := Lib.hid (fun W (hb : Below wr.heap.size wr W) => HIH.out g.kids[m] h.kids[m] _ _ W (HKD.out m hmk) (hgi.keepB (HBB.out.trans (hb.mono HBB.out.size))) (hgi'.keepB (HBB.out.trans (hb.mono HBB.out.size))))
        have HSW : Hid (∀ W, Below wr.heap.size wr W → (Below wr.heap.size wr W ∧ W.cell? ⟨w.heap.size, 3, none⟩ = some (.slice (some ⟨b, off, none⟩) l c) ∧ W.cell? ⟨w.heap.size + 1, 3, none⟩ = some (.slice (some ⟨b', off', none⟩) l c') ∧
          W.cell? ⟨b, off + m * 4, none⟩ = some (.int .u8 k2) ∧ W.cell? ⟨b, off + m * 4 + 1, none⟩ = some (.int .i64 n2) ∧ W.cell? ⟨b, off + m * 4 + 2, none⟩ = some (.string s2) ∧ W.cell? ⟨b, off + m * 4 + 3, none⟩ = some (.slice a2 l2 cc2) ∧
          W.cell? ⟨b', off' + m * 4, none⟩ = some (.int .u8 k3) ∧ W.cell? ⟨b', off' + m * 4 + 1, none⟩ = some (.int .i64 n3) ∧ W.cell? ⟨b', off' + m * 4 + 2, none⟩ = some (.string s3) ∧ W.cell? ⟨b', off' + m * 4 + 3, none⟩ = some (.slice a3 l3 cc3))) :=
          fun W hb => ⟨hb, cellBelow2 hb z3, cellBelow2 hb z3', cellBelow2 hb y0, cellBelow2 hb y1, cellBelow2 hb y2, cellBelow2 hb y3, cellBelow2 hb u0, cellBelow2 hb u1, cellBelow2 hb u2, cellBelow2 hb u3⟩
        have wr1 : IntKind.i64.wrap ((m : Int) + 1) = (m : Int) + 1 := wrap_i64 (by omega) (by omega)
        clear hgi hgi'
        go_wp2_with fail
        go_region_held3 (fun W => Below wr.heap.size wr W ∧ W.cell? ⟨w.heap.size, 3, none⟩ = some (.slice (some ⟨b, off, none⟩) l c) ∧ W.cell? ⟨w.heap.size + 1, 3, none⟩ = some (.slice (some ⟨b', off', none⟩) l c') ∧
          W.cell? ⟨b, off + m * 4, none⟩ = some (.int .u8 k2) ∧ W.cell? ⟨b, off + m * 4 + 1, none⟩ = some (.int .i64 n2) ∧ W.cell? ⟨b, off + m * 4 + 2, none⟩ = some (.string s2) ∧ W.cell? ⟨b, off + m * 4 + 3, none⟩ = some (.slice a2 l2 cc2) ∧
          W.cell? ⟨b', off' + m * 4, none⟩ = some (.int .u8 k3) ∧ W.cell? ⟨b', off' + m * 4 + 1, none⟩ = some (.int .i64 n3) ∧ W.cell? ⟨b', off' + m * 4 + 2, none⟩ = some (.string s3) ∧ W.cell? ⟨b', off' + m * 4 + 3, none⟩ = some (.slice a3 l3 cc3))
          (first | exact HSW.out _ (Below.refl _ _) | exact HSW.out _ (Below.refl _ _).drew | exact HSW.out _ hq)
          (first | (go_at_call 11; refine (HIH2.out _ (Below.refl _ _).drew).mono ?_; rintro e W' ⟨r, rfl, hr, hb2⟩; have hq := (Below.refl wr.heap.size wr).drew.trans (hb2.mono (Nat.le_refl _))))
        have HR := Lib.hid hr
        have HQ := Lib.hid hq
        clear hr hb2 hq HIH2 HSW z3 z3' y0 y1 y2 y3 u0 u1 u2 u3
        cases r with
        | false =>
          have HF : Hid (¬ g = h) := fun he => by
            have hne : ¬ g.kids[m] = h.kids[m] := fun h => by have := HR.out.2 h; cases this
            have hkk := HE2.out.1 he
            exact hne (by simp only [hkk])
          go_wp2_with fail
          go_ret
          exact ⟨false, rfl, ⟨fun h => absurd h (by decide), fun h => absurd h HF.out⟩, HBB.out.trans (HQ.out.mono HBB.out.size)⟩
        | true =>
          have hmm := HR.out.1 rfl
          have HMM := Lib.hid hmm
          clear hmm
          go_wp2_with fail
          refine ⟨⟨m + 1, by omega, rfl, fun j h1 h2 h3 => ?_, HB.out.trans (HQ.out.mono HB.out.size)⟩, by simp only [intOf]; omega⟩
          rcases Nat.lt_or_ge j m with hj | hj
          · exact HALL.out j hj h2 h3
          · obtain rfl : j = m := by omega
            exact HMM.out
      · have i1 : ¬ (m : Int) < (l : Int) := by omega
        have HF : Hid (g = h) := HE2.out.2 (List.ext_getElem (by rw [HL.out, HL'.out]) fun j h1 h2 => HALL.out j (by have := HL.out; omega) h1 h2)
        clear hb hb'
        go_wp2_with fail
        go_ret
        exact ⟨true, rfl, ⟨fun _ => HF.out, fun _ => rfl⟩, HBB.out⟩
end Go.Proofs.YtkmgbkcpjlilpaaDoor
