/- package guard: made, at some kinds. Written by wip/gmadegen.py. package guard: made, asked, deep. package guard: Kind of a guard that was read; package model: truth. -/
import Derived.Test.YtfbbkmdhnkmonaaGreatDoorS26
import Derived.Test.YtfbbkmdhnkmonaaGreatDoorS28
import Derived.Test.YtfbbkmdhnkmonaaGreatDoorS29
import Derived.Test.YtfbbkmdhnkmonaaGreatDoorS27
namespace Go.Proofs.YtfbbkmdhnkmonaaGreatDoor
open Go.RowKit

set_option maxHeartbeats 16000000 in
set_option maxRecDepth 100000 in
theorem made_c8 {d : Nat} (ih : MadeIH d) (g : GD) (cs : List Value) (w : World) (hd : g.deep ≤ d + 1) (hr : g.inR) (hz : g.size ≤ 1000000) (h : GIn w g cs) (hC : ∀ k n s l, g = .node k n s l → k = 8) : Calls Tryz.prog 119 #[.agg cs.toArray] w (MadeEnd g w) := by
  have HIH := Lib.hid ih
  obtain ⟨k, n, sx, a, c, b, off, heg, rfl, hl, -, hb, hk⟩ := h.kid
  have HK := Lib.hid hk
  have hkids : ∀ x ∈ g.kids, x.deep ≤ d ∧ x.inR ∧ x.size ≤ 1000000 := fun x hx => by
    have h1 := deeps_mem hx
    have h2 := sizes_mem hx
    have h3 := g.deep_eq
    rw [heg] at hr hz
    simp only [GD.inR, GD.size] at hr hz
    exact ⟨by omega, inRs_mem hx hr.2, by omega⟩
  have hlz : g.kids.length ≤ 1000000 := by
    rw [heg] at hz
    simp only [GD.size] at hz
    have := sizes_len g.kids
    omega
  have hnr : n ≤ 9223372036854775807 := by
    rw [heg] at hr
    simp only [GD.inR] at hr
    exact hr.1.2
  have HKI := Lib.hid hkids
  have HEG := Lib.hid heg
  have HKK := Lib.hid (hC k n sx g.kids heg)
  have HNR := Lib.hid hnr
  have HSZ : Hid (sx.size ≤ 1000000) := by
    show _ ≤ _
    rw [heg] at hz
    simp only [GD.size] at hz
    omega
  obtain ⟨l, hl'⟩ : ∃ l, g.kids.length = l := ⟨_, rfl⟩
  rw [hl'] at hb hl hlz ⊢
  have HL := Lib.hid hl'
  obtain ⟨w1, hw1⟩ : ∃ w1, w.alloc (.cells #[.int .u8 k, .int .i64 n, .string sx, .slice a l c] 80) = w1 := ⟨_, rfl⟩
  have hb1 : Below w.heap.size w w1 := hw1 ▸ (Below.refl _ _).alloc (Nat.le_refl _) _
  have hx1 : Arr w1 w.heap.size 80 [.int .u8 k, .int .i64 n, .string sx, .slice a l c] := hw1 ▸ Arr.new w [.int .u8 k, .int .i64 n, .string sx, .slice a l c] _
  have HB1 := Lib.hid hb1
  have HX1 := Lib.hid hx1
  have HW1 := Lib.hid hw1
  have x3 := hx1.cell (j := 3) (by simp)
  simp only [List.getElem_cons_zero, List.getElem_cons_succ] at x3
  clear hC ih hk hl' h hkids heg hnr hd hr hz hb1 hx1 hw1 hl
  go_enter Tryz.func119, Tryz.ntmps119
  go_upto_block 0 with fail
  rw [HW1.out]
  go_wp2_with fail
  clear x3
  go_loopw [4, 15] (fun lv i wr => ∃ (m : Nat) (va : Option Addr) (vc : Nat) (ts : List GT) (vs : List Value), m ≤ l ∧ lv = .slice va m vc ∧ i = .int .i64 (m : Int) ∧ Hid (KidsV g m ts vs) ∧ Hid (Own wr w1.heap.size 133 1 va vc m vs) ∧ Hid (Below w1.heap.size w1 wr)) (fun _ i _ => l - (intOf i).toNat)
  case atStart => exact ⟨0, none, 0, [], [], Nat.zero_le _, rfl, rfl, ⟨rfl, rfl, rfl, by simp, fun j h => absurd h (Nat.not_lt_zero _)⟩, Own.nil _ _ _ _, Below.refl _ _⟩
  case round =>
    obtain ⟨m, va, vc, ts, vs, hm, rfl, rfl, HKV, HO, HB⟩ := hrel
    have HBB := Lib.hid (HB1.out.trans (HB.out.mono HB1.out.size))
    by_cases hml : m < l
    · obtain ⟨rfl, hbl⟩ := hb (by omega)
      have i1 : (m : Int) < (l : Int) := by omega
      have i2 : (0 : Int) ≤ (m : Int) := by omega
      have hmk : m < g.kids.length := by rw [HL.out]; exact hml
      obtain ⟨c0, c1, c2, c3, y0, y1, y2, y3, hgi⟩ := HK.out m hmk
      replace y0 := (HBB.out.cell (p := ⟨b, off + m * 4, none⟩) hbl).trans y0
      replace y1 := (HBB.out.cell (p := ⟨b, off + m * 4 + 1, none⟩) hbl).trans y1
      replace y2 := (HBB.out.cell (p := ⟨b, off + m * 4 + 2, none⟩) hbl).trans y2
      replace y3 := (HBB.out.cell (p := ⟨b, off + m * 4 + 3, none⟩) hbl).trans y3
      obtain ⟨k2, n2, s2, a2, l2, cc2, he⟩ := hgi.four
      simp only [List.cons.injEq, and_true] at he
      obtain ⟨rfl, rfl, rfl, rfl⟩ := he
      obtain ⟨q1, q2, q3⟩ := HKI.out _ (List.getElem_mem hmk)
      obtain ⟨w2, hw2⟩ : ∃ w2, wr.alloc (.cells #[.int .u8 k2, .int .i64 n2, .string s2, .slice a2 l2 cc2] 80) = w2 := ⟨_, rfl⟩
      have hb2 : Below w1.heap.size w1 w2 := hw2 ▸ HB.out.alloc HB.out.size _
      have ho2 : Own w2 w1.heap.size 133 1 va vc m vs := hw2 ▸ HO.out.alloc _
      have ha2 : Arr w2 wr.heap.size 80 [.int .u8 k2, .int .i64 n2, .string s2, .slice a2 l2 cc2] := hw2 ▸ Arr.new wr [.int .u8 k2, .int .i64 n2, .string s2, .slice a2 l2 cc2] _
      obtain ⟨u0, u1, u2, u3⟩ := box4 ha2 (Below.refl _ _)
      have HIH2 := Lib.hid (HIH.out g.kids[m] _ w2 q1 q2 q3 (hgi.keepB (HB1.out.trans (hb2.mono HB1.out.size))))
      have HB2 := Lib.hid hb2
      have HO2 := Lib.hid ho2
      have HW2 := Lib.hid hw2
      have wr1 : IntKind.i64.wrap ((m : Int) + 1) = (m : Int) + 1 := wrap_i64 (by omega) (by omega)
      clear hgi q1 q2 q3 hb2 ho2 hw2 ha2
      go_upto_region 5 with fail
      rw [HW2.out]
      go_wp2_with fail
      refine HIH2.out.mono ?_
      rintro e w3 ⟨hb3, v, r, rfl, hr1, hr2⟩
      have HB3 := Lib.hid (HB2.out.trans (hb3.mono HB2.out.size))
      have HO3 := Lib.hid (HO2.out.below hb3 (Nat.le_refl _))
      clear hb3 HIH2 u0 u1 u2 u3
      cases r with
      | false =>
        have HNO := Lib.hid (kids_no hmk (fun h => absurd (hr2 h) (by decide)))
        clear hr1 hr2
        go_wp2_with fail
        go_ret2
        exact ⟨HB1.out.trans (HB3.out.mono HB1.out.size), _, _, rfl, fun h => absurd h (by decide), fun h => absurd h HNO.out⟩
      | true =>
        obtain ⟨t, ht1, ht2, ht3⟩ := hr1 rfl
        have HKV2 := Lib.hid (HKV.out.snoc hmk ht1 ht2 ht3)
        obtain ⟨vT, vp, rfl⟩ := ht3.iface
        have hv1 := ht3.one
        obtain ⟨w4, hw4⟩ : ∃ w4, w3.alloc (.cells #[.iface vT vp] 133) = w4 := ⟨_, rfl⟩
        have hc4 : w4.cell? ⟨w3.heap.size, 0, none⟩ = some (.iface vT vp) := hw4 ▸ (Arr.new w3 [.iface vT vp] _).cell (j := 0) (by simp)
        have hb4 : Below w1.heap.size w1 w4 := hw4 ▸ HB3.out.alloc HB3.out.size _
        have ho4 : Own w4 w1.heap.size 133 1 va vc m vs := hw4 ▸ HO3.out.alloc _
        obtain ⟨va', vc', w5, hap, ho5, hg5⟩ := Own.app elemNode 140 ho4 hb4.size (some ⟨w3.heap.size, 0, none⟩) 1 1 w3.heap.size 0 [.iface vT vp] rfl (fun _ => rfl) (fun j u hj => by
          cases j with
          | zero => simp at hj; subst hj; exact hc4
          | succ j => simp at hj) (fun u hu => by rw [List.mem_singleton.1 hu]; exact hv1) (by unfold maxLen; omega) (by omega)
        rw [← hw4] at hap
        have HAP := Lib.hid hap
        have HO5 := Lib.hid ho5
        have HB5 := Lib.hid (hb4.grown hg5 hb4.size (fun j hj => by
          rcases ho4.block with ⟨h1, _⟩ | ⟨g, h1, h2, _⟩
          · rw [h1] at hj; cases hj
          · rw [h1] at hj; cases hj; exact h2))
        clear hr1 hr2 ht1 ht2 ht3 hv1 hc4 hb4 ho4 hap ho5 hg5 hw4 y0 y1 y2 y3 HIH HK HKI
        go_wp2_with (at_builtin; refine wpList_append_run (by rfl) (.tmp 26) (.tmp 28) 140 (by rfl) (by rfl) (by rfl) HAP.out ?_)
        refine ⟨⟨m + 1, va', vc', _, _, by omega, rfl, rfl, HKV2, HO5, HB5⟩, by simp only [intOf]; omega⟩
    · obtain rfl : m = l := by omega
      have i1 : ¬ (m : Int) < (m : Int) := by omega
      obtain ⟨z0, z1, z2, z3⟩ := box4 HX1.out HB.out
      have hz0 : w.heap.size < wr.heap.size := Nat.lt_of_lt_of_le HX1.out.lt HB.out.size
      obtain ⟨I, eI⟩ : ∃ I, (n == 0) = I := ⟨_, rfl⟩
      obtain ⟨X, eX⟩ : ∃ X, (sx.toList == []) = X := ⟨_, rfl⟩
      have hI : I = true ↔ n = 0 := by rw [← eI]; exact beq_iff_eq
      have hX : X = true ↔ sx = ⟨#[]⟩ := by
        rw [← eX]
        rcases nz_list (s := sx) with ⟨h1, h2⟩ | ⟨h1, h2⟩
        · rw [h2]; exact ⟨fun _ => h1, fun _ => rfl⟩
        · rw [h2]; exact ⟨fun h => absurd h (by decide), fun h => absurd h h1⟩
      have HI := Lib.hid hI
      have HXX := Lib.hid hX
      clear hI hX hb HIH HK HKI
      go_wp2_with fail
      go_quiet (fail)
      clear eI eX z0 z1 z2 z3 i1
      have HBd := Lib.hid (below_drewN HB.out nq)
      have HOd := Lib.hid (HO.out.drewN nq)
      clear HB HO HBB
      generalize wr.drewN nq = wd at *
      have hz1 : w.heap.size < wd.heap.size := Nat.lt_of_lt_of_le HX1.out.lt HBd.out.size
      have HEND := Lib.hid (HB1.out.trans (HBd.out.mono HB1.out.size))
      obtain ⟨z0, z1, z2, z3⟩ := box4 HX1.out HBd.out
      have hk8 := HKK.out
      clear HKK
      subst hk8
      by_cases hm0 : m = 1
      rotate_left
      · have e0 : ((m : Int) == 1) = false := by rw [beq_eq_false_iff_ne]; omega
        have HM0 := Lib.hid hm0
        clear hm0
        go_wp2_with fail
        go_ret2
        exact ⟨HEND.out, _, _, rfl, made_noneG HEG.out HL.out ⟨by omega, fun h => absurd h.2 HM0.out, by omega⟩⟩
      subst hm0
      obtain ⟨g0, rfl, -, -, hc0, -⟩ := HOd.out.cell (by decide)
      obtain ⟨v, hv⟩ : ∃ v, vs = [v] := List.length_eq_one_iff.1 HKV.out.2.1
      subst hv
      have y0 := hc0 0 v rfl
      obtain ⟨t, ht⟩ : ∃ t, ts = [t] := List.length_eq_one_iff.1 HKV.out.1
      subst ht
      obtain ⟨vT, vp, rfl⟩ := NodeV.iface (show NodeV t v from HKV.out.2.2.2.2 0 (by simp) (by simp))
      clear hc0
      cases I
      · go_wp2_with fail
        go_ret2
        exact ⟨HEND.out, _, _, rfl, made_oneG HEG.out HL.out HKV.out (fun _ => rfl) ⟨fun h => absurd h (by decide), fun h => by first | exact absurd (HI.out.2 h.2.1) (by decide) | exact absurd (HXX.out.2 h.2.2) (by decide)⟩⟩
      · cases X
        · go_wp2_with fail
          go_ret2
          exact ⟨HEND.out, _, _, rfl, made_oneG HEG.out HL.out HKV.out (fun _ => rfl) ⟨fun h => absurd h (by decide), fun h => by first | exact absurd (HI.out.2 h.2.1) (by decide) | exact absurd (HXX.out.2 h.2.2) (by decide)⟩⟩
        · go_wp2_with fail
          go_ret2
          exact ⟨HEND.out, _, _, rfl, made_oneG HEG.out HL.out HKV.out (fun _ => rfl) ⟨fun _ => ⟨rfl, HI.out.1 (by simp), HXX.out.1 (by simp)⟩, fun _ => rfl⟩⟩
set_option maxHeartbeats 16000000 in
set_option maxRecDepth 100000 in
theorem made_cpair {d : Nat} (ih : MadeIH d) (g : GD) (cs : List Value) (w : World) (hd : g.deep ≤ d + 1) (hr : g.inR) (hz : g.size ≤ 1000000) (h : GIn w g cs) (hC : ∀ k n s l, g = .node k n s l → 9 ≤ k ∧ k ≤ 15) : Calls Tryz.prog 119 #[.agg cs.toArray] w (MadeEnd g w) := by
  have HIH := Lib.hid ih
  obtain ⟨k, n, sx, a, c, b, off, heg, rfl, hl, -, hb, hk⟩ := h.kid
  have HK := Lib.hid hk
  have hkids : ∀ x ∈ g.kids, x.deep ≤ d ∧ x.inR ∧ x.size ≤ 1000000 := fun x hx => by
    have h1 := deeps_mem hx
    have h2 := sizes_mem hx
    have h3 := g.deep_eq
    rw [heg] at hr hz
    simp only [GD.inR, GD.size] at hr hz
    exact ⟨by omega, inRs_mem hx hr.2, by omega⟩
  have hlz : g.kids.length ≤ 1000000 := by
    rw [heg] at hz
    simp only [GD.size] at hz
    have := sizes_len g.kids
    omega
  have hnr : n ≤ 9223372036854775807 := by
    rw [heg] at hr
    simp only [GD.inR] at hr
    exact hr.1.2
  have HKI := Lib.hid hkids
  have HEG := Lib.hid heg
  have HKK := Lib.hid (hC k n sx g.kids heg)
  have HNR := Lib.hid hnr
  have HSZ : Hid (sx.size ≤ 1000000) := by
    show _ ≤ _
    rw [heg] at hz
    simp only [GD.size] at hz
    omega
  obtain ⟨l, hl'⟩ : ∃ l, g.kids.length = l := ⟨_, rfl⟩
  rw [hl'] at hb hl hlz ⊢
  have HL := Lib.hid hl'
  obtain ⟨w1, hw1⟩ : ∃ w1, w.alloc (.cells #[.int .u8 k, .int .i64 n, .string sx, .slice a l c] 80) = w1 := ⟨_, rfl⟩
  have hb1 : Below w.heap.size w w1 := hw1 ▸ (Below.refl _ _).alloc (Nat.le_refl _) _
  have hx1 : Arr w1 w.heap.size 80 [.int .u8 k, .int .i64 n, .string sx, .slice a l c] := hw1 ▸ Arr.new w [.int .u8 k, .int .i64 n, .string sx, .slice a l c] _
  have HB1 := Lib.hid hb1
  have HX1 := Lib.hid hx1
  have HW1 := Lib.hid hw1
  have x3 := hx1.cell (j := 3) (by simp)
  simp only [List.getElem_cons_zero, List.getElem_cons_succ] at x3
  clear hC ih hk hl' h hkids heg hnr hd hr hz hb1 hx1 hw1 hl
  go_enter Tryz.func119, Tryz.ntmps119
  go_upto_block 0 with fail
  rw [HW1.out]
  go_wp2_with fail
  clear x3
  go_loopw [4, 15] (fun lv i wr => ∃ (m : Nat) (va : Option Addr) (vc : Nat) (ts : List GT) (vs : List Value), m ≤ l ∧ lv = .slice va m vc ∧ i = .int .i64 (m : Int) ∧ Hid (KidsV g m ts vs) ∧ Hid (Own wr w1.heap.size 133 1 va vc m vs) ∧ Hid (Below w1.heap.size w1 wr)) (fun _ i _ => l - (intOf i).toNat)
  case atStart => exact ⟨0, none, 0, [], [], Nat.zero_le _, rfl, rfl, ⟨rfl, rfl, rfl, by simp, fun j h => absurd h (Nat.not_lt_zero _)⟩, Own.nil _ _ _ _, Below.refl _ _⟩
  case round =>
    obtain ⟨m, va, vc, ts, vs, hm, rfl, rfl, HKV, HO, HB⟩ := hrel
    have HBB := Lib.hid (HB1.out.trans (HB.out.mono HB1.out.size))
    by_cases hml : m < l
    · obtain ⟨rfl, hbl⟩ := hb (by omega)
      have i1 : (m : Int) < (l : Int) := by omega
      have i2 : (0 : Int) ≤ (m : Int) := by omega
      have hmk : m < g.kids.length := by rw [HL.out]; exact hml
      obtain ⟨c0, c1, c2, c3, y0, y1, y2, y3, hgi⟩ := HK.out m hmk
      replace y0 := (HBB.out.cell (p := ⟨b, off + m * 4, none⟩) hbl).trans y0
      replace y1 := (HBB.out.cell (p := ⟨b, off + m * 4 + 1, none⟩) hbl).trans y1
      replace y2 := (HBB.out.cell (p := ⟨b, off + m * 4 + 2, none⟩) hbl).trans y2
      replace y3 := (HBB.out.cell (p := ⟨b, off + m * 4 + 3, none⟩) hbl).trans y3
      obtain ⟨k2, n2, s2, a2, l2, cc2, he⟩ := hgi.four
      simp only [List.cons.injEq, and_true] at he
      obtain ⟨rfl, rfl, rfl, rfl⟩ := he
      obtain ⟨q1, q2, q3⟩ := HKI.out _ (List.getElem_mem hmk)
      obtain ⟨w2, hw2⟩ : ∃ w2, wr.alloc (.cells #[.int .u8 k2, .int .i64 n2, .string s2, .slice a2 l2 cc2] 80) = w2 := ⟨_, rfl⟩
      have hb2 : Below w1.heap.size w1 w2 := hw2 ▸ HB.out.alloc HB.out.size _
      have ho2 : Own w2 w1.heap.size 133 1 va vc m vs := hw2 ▸ HO.out.alloc _
      have ha2 : Arr w2 wr.heap.size 80 [.int .u8 k2, .int .i64 n2, .string s2, .slice a2 l2 cc2] := hw2 ▸ Arr.new wr [.int .u8 k2, .int .i64 n2, .string s2, .slice a2 l2 cc2] _
      obtain ⟨u0, u1, u2, u3⟩ := box4 ha2 (Below.refl _ _)
      have HIH2 := Lib.hid (HIH.out g.kids[m] _ w2 q1 q2 q3 (hgi.keepB (HB1.out.trans (hb2.mono HB1.out.size))))
      have HB2 := Lib.hid hb2
      have HO2 := Lib.hid ho2
      have HW2 := Lib.hid hw2
      have wr1 : IntKind.i64.wrap ((m : Int) + 1) = (m : Int) + 1 := wrap_i64 (by omega) (by omega)
      clear hgi q1 q2 q3 hb2 ho2 hw2 ha2
      go_upto_region 5 with fail
      rw [HW2.out]
      go_wp2_with fail
      refine HIH2.out.mono ?_
      rintro e w3 ⟨hb3, v, r, rfl, hr1, hr2⟩
      have HB3 := Lib.hid (HB2.out.trans (hb3.mono HB2.out.size))
      have HO3 := Lib.hid (HO2.out.below hb3 (Nat.le_refl _))
      clear hb3 HIH2 u0 u1 u2 u3
      cases r with
      | false =>
        have HNO := Lib.hid (kids_no hmk (fun h => absurd (hr2 h) (by decide)))
        clear hr1 hr2
        go_wp2_with fail
        go_ret2
        exact ⟨HB1.out.trans (HB3.out.mono HB1.out.size), _, _, rfl, fun h => absurd h (by decide), fun h => absurd h HNO.out⟩
      | true =>
        obtain ⟨t, ht1, ht2, ht3⟩ := hr1 rfl
        have HKV2 := Lib.hid (HKV.out.snoc hmk ht1 ht2 ht3)
        obtain ⟨vT, vp, rfl⟩ := ht3.iface
        have hv1 := ht3.one
        obtain ⟨w4, hw4⟩ : ∃ w4, w3.alloc (.cells #[.iface vT vp] 133) = w4 := ⟨_, rfl⟩
        have hc4 : w4.cell? ⟨w3.heap.size, 0, none⟩ = some (.iface vT vp) := hw4 ▸ (Arr.new w3 [.iface vT vp] _).cell (j := 0) (by simp)
        have hb4 : Below w1.heap.size w1 w4 := hw4 ▸ HB3.out.alloc HB3.out.size _
        have ho4 : Own w4 w1.heap.size 133 1 va vc m vs := hw4 ▸ HO3.out.alloc _
        obtain ⟨va', vc', w5, hap, ho5, hg5⟩ := Own.app elemNode 140 ho4 hb4.size (some ⟨w3.heap.size, 0, none⟩) 1 1 w3.heap.size 0 [.iface vT vp] rfl (fun _ => rfl) (fun j u hj => by
          cases j with
          | zero => simp at hj; subst hj; exact hc4
          | succ j => simp at hj) (fun u hu => by rw [List.mem_singleton.1 hu]; exact hv1) (by unfold maxLen; omega) (by omega)
        rw [← hw4] at hap
        have HAP := Lib.hid hap
        have HO5 := Lib.hid ho5
        have HB5 := Lib.hid (hb4.grown hg5 hb4.size (fun j hj => by
          rcases ho4.block with ⟨h1, _⟩ | ⟨g, h1, h2, _⟩
          · rw [h1] at hj; cases hj
          · rw [h1] at hj; cases hj; exact h2))
        clear hr1 hr2 ht1 ht2 ht3 hv1 hc4 hb4 ho4 hap ho5 hg5 hw4 y0 y1 y2 y3 HIH HK HKI
        go_wp2_with (at_builtin; refine wpList_append_run (by rfl) (.tmp 26) (.tmp 28) 140 (by rfl) (by rfl) (by rfl) HAP.out ?_)
        refine ⟨⟨m + 1, va', vc', _, _, by omega, rfl, rfl, HKV2, HO5, HB5⟩, by simp only [intOf]; omega⟩
    · obtain rfl : m = l := by omega
      have i1 : ¬ (m : Int) < (m : Int) := by omega
      obtain ⟨z0, z1, z2, z3⟩ := box4 HX1.out HB.out
      have hz0 : w.heap.size < wr.heap.size := Nat.lt_of_lt_of_le HX1.out.lt HB.out.size
      obtain ⟨I, eI⟩ : ∃ I, (n == 0) = I := ⟨_, rfl⟩
      obtain ⟨X, eX⟩ : ∃ X, (sx.toList == []) = X := ⟨_, rfl⟩
      have hI : I = true ↔ n = 0 := by rw [← eI]; exact beq_iff_eq
      have hX : X = true ↔ sx = ⟨#[]⟩ := by
        rw [← eX]
        rcases nz_list (s := sx) with ⟨h1, h2⟩ | ⟨h1, h2⟩
        · rw [h2]; exact ⟨fun _ => h1, fun _ => rfl⟩
        · rw [h2]; exact ⟨fun h => absurd h (by decide), fun h => absurd h h1⟩
      have HI := Lib.hid hI
      have HXX := Lib.hid hX
      clear hI hX hb HIH HK HKI
      go_wp2_with fail
      go_quiet (fail)
      clear eI eX z0 z1 z2 z3 i1
      have HBd := Lib.hid (below_drewN HB.out nq)
      have HOd := Lib.hid (HO.out.drewN nq)
      clear HB HO HBB
      generalize wr.drewN nq = wd at *
      have hz1 : w.heap.size < wd.heap.size := Nat.lt_of_lt_of_le HX1.out.lt HBd.out.size
      have HEND := Lib.hid (HB1.out.trans (HBd.out.mono HB1.out.size))
      obtain ⟨z0, z1, z2, z3⟩ := box4 HX1.out HBd.out
      have hkp := HKK.out
      clear HKK
      have n1 : ((k : Int) == 1) = false := by rw [beq_eq_false_iff_ne]; omega
      have n2 : ((k : Int) == 2) = false := by rw [beq_eq_false_iff_ne]; omega
      have n3 : ((k : Int) == 3) = false := by rw [beq_eq_false_iff_ne]; omega
      have n4 : ((k : Int) == 4) = false := by rw [beq_eq_false_iff_ne]; omega
      have n5 : ((k : Int) == 5) = false := by rw [beq_eq_false_iff_ne]; omega
      have n6 : ((k : Int) == 6) = false := by rw [beq_eq_false_iff_ne]; omega
      have n7 : ((k : Int) == 7) = false := by rw [beq_eq_false_iff_ne]; omega
      have n8 : ((k : Int) == 8) = false := by rw [beq_eq_false_iff_ne]; omega
      have p1 : decide (9 ≤ (k : Int)) = true := decide_eq_true (by omega)
      have p2 : decide ((k : Int) ≤ 15) = true := decide_eq_true (by omega)
      have HKP := Lib.hid hkp
      clear hkp
      by_cases hm0 : m = 2
      rotate_left
      · have e0 : ((m : Int) == 2) = false := by rw [beq_eq_false_iff_ne]; omega
        have HM0 := Lib.hid hm0
        clear hm0
        go_wp2_with fail
        go_ret2
        exact ⟨HEND.out, _, _, rfl, made_noneG HEG.out HL.out ⟨by have := HKP.out; omega, by have := HKP.out; omega, fun h => absurd h.2 HM0.out⟩⟩
      subst hm0
      obtain ⟨g0, rfl, -, -, hc0, -⟩ := HOd.out.cell (by decide)
      obtain ⟨v, u, hv⟩ := len_two HKV.out.2.1
      subst hv
      have y0 := hc0 0 v rfl
      have y1 := hc0 1 u rfl
      obtain ⟨t, t2, ht⟩ := len_two HKV.out.1
      subst ht
      obtain ⟨vT, vp, rfl⟩ := NodeV.iface (show NodeV t v from HKV.out.2.2.2.2 0 (by simp) (by simp))
      obtain ⟨uT, up, rfl⟩ := NodeV.iface (show NodeV t2 u from HKV.out.2.2.2.2 1 (by simp) (by simp))
      clear hc0
      cases I
      · go_wp2_with fail
        go_quiet (fail)
        go_wp2_with fail
        go_ret2
        exact ⟨below_drewN HEND.out nq, _, _, rfl, made_pairG HEG.out HL.out HKP.out a c HKV.out (fun _ => ⟨rfl, rfl⟩) ⟨fun h => absurd h (by decide), fun h => by first | exact absurd (HI.out.2 h.2.1) (by decide) | exact absurd (HXX.out.2 h.2.2) (by decide)⟩⟩
      · cases X
        · go_wp2_with fail
          go_quiet (fail)
          go_wp2_with fail
          go_ret2
          exact ⟨below_drewN HEND.out nq, _, _, rfl, made_pairG HEG.out HL.out HKP.out a c HKV.out (fun _ => ⟨rfl, rfl⟩) ⟨fun h => absurd h (by decide), fun h => by first | exact absurd (HI.out.2 h.2.1) (by decide) | exact absurd (HXX.out.2 h.2.2) (by decide)⟩⟩
        · go_wp2_with fail
          go_quiet (fail)
          go_wp2_with fail
          go_ret2
          exact ⟨below_drewN HEND.out nq, _, _, rfl, made_pairG HEG.out HL.out HKP.out a c HKV.out (fun _ => ⟨rfl, rfl⟩) ⟨fun _ => ⟨rfl, HI.out.1 (by simp), HXX.out.1 (by simp)⟩, fun _ => rfl⟩⟩
end Go.Proofs.YtfbbkmdhnkmonaaGreatDoor

namespace Go.Proofs.YtfbbkmdhnkmonaaGreatDoor
open Go.RowKit

theorem made_walk : ∀ d, MadeIH d
  | 0 => fun g _ _ h _ _ _ => by rw [g.deep_eq] at h; omega
  | d + 1 => fun g cs w hd hr hz h => by
    have ih := made_walk d
    obtain ⟨k, n, s, _, _, _, _, heg, -⟩ := h.kid
    have hC : ∀ {C : Nat → Prop}, C k → ∀ k' n' s' l', g = .node k' n' s' l' → C k' := fun hc k' n' s' l' e => by
      rw [heg] at e
      simp only [GD.node.injEq] at e
      exact e.1 ▸ hc
    have : k = 0 ∨ k = 1 ∨ k = 2 ∨ k = 3 ∨ k = 4 ∨ k = 5 ∨ k = 6 ∨ k = 7 ∨ k = 8 ∨ (9 ≤ k ∧ k ≤ 15) ∨ 15 < k := by omega
    rcases this with h0 | h0 | h0 | h0 | h0 | h0 | h0 | h0 | h0 | h0 | h0
    · exact made_cother ih g cs w hd hr hz h (hC (C := fun k => k = 0 ∨ 15 < k) (.inl h0))
    · exact made_c1 ih g cs w hd hr hz h (hC (C := fun k => k = 1) h0)
    · exact made_c2 ih g cs w hd hr hz h (hC (C := fun k => k = 2) h0)
    · exact made_c3 ih g cs w hd hr hz h (hC (C := fun k => k = 3) h0)
    · exact made_c4 ih g cs w hd hr hz h (hC (C := fun k => k = 4) h0)
    · exact made_c5 ih g cs w hd hr hz h (hC (C := fun k => k = 5) h0)
    · exact made_c6 ih g cs w hd hr hz h (hC (C := fun k => k = 6) h0)
    · exact made_c7 ih g cs w hd hr hz h (hC (C := fun k => k = 7) h0)
    · exact made_c8 ih g cs w hd hr hz h (hC (C := fun k => k = 8) h0)
    · exact made_cpair ih g cs w hd hr hz h (hC (C := fun k => 9 ≤ k ∧ k ≤ 15) h0)
    · exact made_cother ih g cs w hd hr hz h (hC (C := fun k => k = 0 ∨ 15 < k) (.inr h0))

set_option maxHeartbeats 4000000 in
set_option maxRecDepth 100000 in
/-- guard.deep, at any guard -/
theorem deepD_walk : ∀ (d : Nat) (g : GD) (cs : List Value) (w : World), g.deep ≤ d → d ≤ 1000000 → GIn w g cs →
    Calls Tryz.prog 81 #[.agg cs.toArray] w fun e w' => e = .returned (.int .i64 (g.deep : Int)) ∧ Below w.heap.size w w'
  | 0, g, _, _, h, _, _ => by rw [g.deep_eq] at h; omega
  | d + 1, g, cs, w, hd, hmax, h => by
    have HIH := Lib.hid (fun (g : GD) (cs : List Value) (w : World) (h1 : g.deep ≤ d) (h2 : GIn w g cs) => deepD_walk d g cs w h1 (by omega) h2)
    obtain ⟨k, n, sx, a, c, b, off, -, rfl, hl, -, hb, hk⟩ := h.kid
    have HK := Lib.hid hk
    have hde := g.deep_eq
    have HALL := Lib.hid (fun m (h : g.kids.length ≤ m) => (show GD.deeps (g.kids.take m) + 1 = g.deep by rw [List.take_of_length_le h, hde]))
    have HSUC := Lib.hid (fun m (h : m < g.kids.length) => deeps_take_succ (l := g.kids) h)
    have HLT := Lib.hid (fun m => (show GD.deeps (g.kids.take m) < g.deep by have := deeps_take_le g.kids m; omega))
    have HKD := Lib.hid (fun m (h : m < g.kids.length) => (show g.kids[m].deep < g.deep by have := deeps_mem (List.getElem_mem h); omega))
    have h00 : GD.deeps (g.kids.take 0) = 0 := rfl
    obtain ⟨l, hl'⟩ : ∃ l, g.kids.length = l := ⟨_, rfl⟩
    rw [hl'] at hb hl ⊢
    have HL := Lib.hid hl'
    unfold maxLen at hl
    clear hk hl' h hde
    go_enter Tryz.func81, Tryz.ntmps81
    go_wp2_with fail
    go_loopw [3, 9] (fun n i wr => ∃ m : Nat, m ≤ l ∧ n = .int .i64 (GD.deeps (g.kids.take m) : Int) ∧ i = .int .i64 (m : Int) ∧ Hid (Below w.heap.size w wr)) (fun _ i _ => l - (intOf i).toNat)
    case atStart => exact ⟨0, Nat.zero_le _, by rw [h00]; rfl, rfl, (Below.refl _ _).alloc (Nat.le_refl _) _⟩
    case round =>
      obtain ⟨m, hm, rfl, rfl, HB⟩ := hrel
      by_cases hml : m < l
      · obtain ⟨rfl, hbl⟩ := hb (by omega)
        have i1 : (m : Int) < (l : Int) := by omega
        have i2 : (0 : Int) ≤ (m : Int) := by omega
        have hmk : m < g.kids.length := by rw [HL.out]; exact hml
        obtain ⟨c0, c1, c2, c3, y0, y1, y2, y3, hgi⟩ := HK.out m hmk
        replace y0 := (HB.out.cell (p := ⟨b, off + m * 4, none⟩) hbl).trans y0
        replace y1 := (HB.out.cell (p := ⟨b, off + m * 4 + 1, none⟩) hbl).trans y1
        replace y2 := (HB.out.cell (p := ⟨b, off + m * 4 + 2, none⟩) hbl).trans y2
        replace y3 := (HB.out.cell (p := ⟨b, off + m * 4 + 3, none⟩) hbl).trans y3
        obtain ⟨k2, n2, s2, a2, l2, cc2, he⟩ := hgi.four
        simp only [List.cons.injEq, and_true] at he
        obtain ⟨rfl, rfl, rfl, rfl⟩ := he
        have hkd := HKD.out m hmk
        have hIH := HIH.out g.kids[m] _ (wr.alloc (.cells #[.int .u8 k2, .int .i64 n2, .string s2, .slice a2 l2 cc2] 80)) (by omega) (hgi.keepB (HB.out.alloc HB.out.size _))
        have hsu := HSUC.out m hmk
        obtain ⟨q, hq⟩ : ∃ q, g.kids[m].deep = q := ⟨_, rfl⟩
        rw [hq] at hIH hsu hkd
        have HIH2 := Lib.hid hIH
        have HSU := Lib.hid hsu
        have hlt1 := HLT.out m
        have wr1 : IntKind.i64.wrap ((m : Int) + 1) = (m : Int) + 1 := wrap_i64 (by omega) (by omega)
        clear hIH hsu hgi
        go_wp2_with fail
        refine HIH2.out.mono ?_
        rintro e w2 ⟨rfl, hb2⟩
        have HB2 := Lib.hid hb2
        clear hb2 HIH2
        go_wp2_with fail
        refine ⟨⟨m + 1, by omega, ?_, rfl, ?_⟩, by simp only [intOf]; omega⟩
        · rw [HSU.out]
          simp only [Value.int.injEq, true_and]
          omega
        · exact (HB.out.alloc HB.out.size _).trans (HB2.out.mono (by rw [size_alloc]; have := HB.out.size; omega))
      · have hfin := HALL.out m (by rw [HL.out]; omega)
        have i1 : ¬ (m : Int) < (l : Int) := by omega
        have wr1 : IntKind.i64.wrap ((GD.deeps (g.kids.take m) : Int) + 1) = (g.deep : Int) := by rw [wrap_i64 (by omega) (by omega), ← hfin]; rfl
        clear hb hfin
        go_wp2_with fail
        go_ret
        exact ⟨rfl, HB.out⟩
/-- how asked ends -/
def AskedEnd (g : GD) (w : World) (e : Ending) (w' : World) : Prop := Below w.heap.size w w' ∧
  ((¬ (∃ t : GT, g = t.toGD ∧ t.may) ∧ e = .returned (.tuple #[.nilIface, .int .i64 8])) ∨
   ∃ t : GT, g = t.toGD ∧ t.may ∧ ((32 < t.deep ∧ e = .returned (.tuple #[.nilIface, .int .i64 161])) ∨ (t.deep ≤ 32 ∧ ∃ v, NodeV t v ∧ e = .returned (.tuple #[v, .int .i64 0]))))
set_option maxHeartbeats 4000000 in
set_option maxRecDepth 100000 in
theorem asked_walk (g : GD) (cs : List Value) (w : World) (hd : g.deep ≤ 1000000) (hr : g.inR) (hz : g.size ≤ 1000000) (h : GIn w g cs) : Calls Tryz.prog 82 #[.agg cs.toArray] w (AskedEnd g w) := by
  obtain ⟨k, n, sx, a, l, c, rfl⟩ := h.four
  obtain ⟨w1, hw1⟩ : ∃ w1, w.alloc (.cells #[.int .u8 k, .int .i64 n, .string sx, .slice a l c] 80) = w1 := ⟨_, rfl⟩
  have hb1 : Below w.heap.size w w1 := hw1 ▸ (Below.refl _ _).alloc (Nat.le_refl _) _
  have hx1 : Arr w1 w.heap.size 80 [.int .u8 k, .int .i64 n, .string sx, .slice a l c] := hw1 ▸ Arr.new w [.int .u8 k, .int .i64 n, .string sx, .slice a l c] _
  have HM := Lib.hid (made_walk 1000000 g _ w1 hd hr hz (h.keepB hb1))
  have HD := Lib.hid (fun W (hb : Below w.heap.size w W) => deepD_walk 1000000 g _ W hd (by omega) (h.keepB hb))
  have HB1 := Lib.hid hb1
  have HX1 := Lib.hid hx1
  have HW1 := Lib.hid hw1
  obtain ⟨z0, z1, z2, z3⟩ := box4 hx1 (Below.refl _ _)
  clear h hb1 hx1 hw1
  go_enter Tryz.func82, Tryz.ntmps82
  go_upto_region 1 with fail
  rw [HW1.out]
  go_wp2_with fail
  refine HM.out.mono ?_
  rintro e w2 ⟨hb2, v, b, rfl, hr1, hr2⟩
  have HB2 := Lib.hid (HB1.out.trans (hb2.mono HB1.out.size))
  clear z0 z1 z2 z3
  obtain ⟨z0, z1, z2, z3⟩ := box4 HX1.out hb2
  clear hb2 HM
  cases b with
  | false =>
    have HNO : Hid (¬ ∃ t : GT, g = t.toGD ∧ t.may) := fun h => absurd (hr2 h) (by decide)
    clear hr1 hr2
    go_wp2_with fail
    go_ret2
    exact ⟨HB2.out, .inl ⟨HNO.out, rfl⟩⟩
  | true =>
    obtain ⟨t, ht, hmay, hv⟩ := hr1 rfl
    obtain ⟨vT, vp, rfl⟩ := hv.iface
    have hgd : g.deep = t.deep := by rw [ht, toGD_deep]
    have HDD := Lib.hid (HD.out w2 HB2.out)
    rw [hgd] at HDD
    have HT := Lib.hid ht
    have HMAY := Lib.hid hmay
    have HV := Lib.hid hv
    clear hr1 hr2 ht hmay hv HD hd hgd hr hz
    go_wp2_with fail
    refine HDD.out.mono ?_
    rintro e w3 ⟨rfl, hb3⟩
    have HB3 := Lib.hid (HB2.out.trans (hb3.mono HB2.out.size))
    clear hb3 HDD z0 z1 z2 z3
    by_cases h32 : 32 < t.deep
    · have i1 : (32 : Int) < (t.deep : Int) := by omega
      have H32 := Lib.hid h32
      clear h32
      go_wp2_with fail
      go_ret2
      exact ⟨HB3.out, .inr ⟨t, HT.out, HMAY.out, .inl ⟨H32.out, rfl⟩⟩⟩
    · have i1 : ¬ (32 : Int) < (t.deep : Int) := by omega
      have H32 := Lib.hid h32
      clear h32
      go_wp2_with fail
      go_ret2
      exact ⟨HB3.out, .inr ⟨t, HT.out, HMAY.out, .inr ⟨Nat.not_lt.1 H32.out, _, HV.out, rfl⟩⟩⟩
end Go.Proofs.YtfbbkmdhnkmonaaGreatDoor

namespace Go.Proofs.YtfbbkmdhnkmonaaGreatDoor
open Go.RowKit

/-- a guard that may be is in range -/
theorem may_inR : ∀ t : GT, t.may → t.toGD.inR
  | .leaf k n s, hm => by
    simp only [GT.toGD, GD.inR, GD.inRs, and_true]
    rcases hm with ⟨_, h, _⟩ | ⟨_, h, h2, _⟩ | ⟨_, h, _⟩ | ⟨_, h, _⟩ <;> omega
  | .one k a, hm => by
    simp only [GT.toGD, GD.inR, GD.inRs, and_true]
    exact ⟨by omega, may_inR a hm.2⟩
  | .two k a b, hm => by
    simp only [GT.toGD, GD.inR, GD.inRs, and_true]
    exact ⟨by omega, may_inR a hm.2.1, may_inR b hm.2.2⟩
/-- asked, at a guard that may be -/
theorem asked_may {t : GT} {cs : List Value} {w : World} (hm : t.may) (hd : t.deep ≤ 32) (hs : t.toGD.size ≤ 60000) (h : GIn w t.toGD cs) :
    Calls Tryz.prog 82 #[.agg cs.toArray] w fun e w' => (∃ u, NodeV t u ∧ e = .returned (.tuple #[u, .int .i64 0])) ∧ Below w.heap.size w w' := by
  refine (asked_walk t.toGD cs w (by rw [toGD_deep]; omega) (may_inR t hm) (by omega) h).mono ?_
  rintro e w' ⟨hb, hno | ⟨t', ht, hm', ⟨h32, -⟩ | ⟨-, u, hu, rfl⟩⟩⟩
  · exact absurd ⟨t, rfl, hm⟩ hno.1
  · have := congrArg GD.deep ht
    rw [toGD_deep, toGD_deep] at this
    omega
  · obtain rfl := toGD_inj ht
    exact ⟨⟨u, hu, rfl⟩, hb⟩
set_option maxHeartbeats 4000000 in
set_option maxRecDepth 100000 in
theorem Kind_walk (md : ModelD) (v : ModelV) (t : GT) (cs : List Value) (w : World) (hz : md.Sml) (hm : t.may) (hd : t.deep ≤ 32) (hs : t.toGD.size ≤ 60000) (h : GIn w t.toGD cs) (hM : ModelM false (From 0) w md v) :
    Calls Tryz.prog 122 #[.agg cs.toArray, .agg (v.cs md).toArray] w (fun e w' => e = tup2 (judg md t) ∧ Below w.heap.size w w') := by
  obtain ⟨n, a, l, c, rfl⟩ := gin_kt h
  obtain ⟨w0, hw0⟩ : ∃ w0, w.alloc (.cells #[.int .u8 t.kd, .int .i64 n, .string t.tx, .slice a l c] 80) = w0 := ⟨_, rfl⟩
  obtain ⟨w1, hw1⟩ : ∃ w1, w0.alloc (.cells (v.cs md).toArray 31) = w1 := ⟨_, rfl⟩
  have hz0 : w0.heap.size = w.heap.size + 1 := by rw [← hw0, size_alloc]
  have hb0 : Below w.heap.size w w0 := hw0 ▸ (Below.refl _ _).alloc (Nat.le_refl _) _
  have hb01 : Below w0.heap.size w0 w1 := hw1 ▸ (Below.refl _ _).alloc (Nat.le_refl _) _
  have hb1 : Below w.heap.size w w1 := hb0.trans (hb01.mono hb0.size)
  have hL : Arr w1 w.heap.size 80 [.int .u8 t.kd, .int .i64 n, .string t.tx, .slice a l c] := hw1 ▸ (show Arr w0 _ _ _ from hw0 ▸ Arr.new w _ _).alloc _
  have hX : Arr w1 (w.heap.size + 1) 31 (v.cs md) := by
    have := Arr.new w0 (v.cs md) 31
    rw [hz0] at this
    exact hw1 ▸ this
  have HW : Hid ((w.alloc (.cells #[.int .u8 t.kd, .int .i64 n, .string t.tx, .slice a l c] 80)).alloc (.cells (v.cs md).toArray 31) = w1) := by
    show _ = _
    rw [hw0]; exact hw1
  have HA := Lib.hid (asked_may hm hd hs (h.keepB hb1))
  have HJ := Lib.hid (fun u W (hu : NodeV t u) (hb : Below w.heap.size w W) => judged_walk md v hz t u W hm hu (hM.grow hb))
  have HX := Lib.hid hX
  have HB1 := Lib.hid hb1
  obtain ⟨z0, z1, z2, z3⟩ := box4 hL (Below.refl _ _)
  obtain ⟨r, hr⟩ : ∃ r, judg md t = r := ⟨_, rfl⟩
  rw [hr] at HJ ⊢
  clear h hM hz hm hd hs hb0 hb01 hb1 hL hX hw0 hw1 hr
  go_enter Tryz.func122, Tryz.ntmps122
  go_upto_region 1 with fail
  rw [HW.out]
  go_wp2_with fail
  refine HA.out.mono ?_
  rintro e w2 ⟨⟨u, hu, rfl⟩, hb2⟩
  have HB2 := Lib.hid (HB1.out.trans (hb2.mono HB1.out.size))
  obtain ⟨y0, y1, y2, y3, y4, y5⟩ := box6 HX.out hb2
  obtain ⟨T, p, rfl⟩ := hu.iface
  have HJ2 := Lib.hid (HJ.out _ w2 hu HB2.out)
  clear hb2 hu HA HJ z0 z1 z2 z3
  go_wp2_with fail
  refine HJ2.out.mono ?_
  rintro e w3 ⟨rfl, hb3⟩
  have HB3 := Lib.hid (HB2.out.trans (hb3.mono HB2.out.size))
  clear hb3 HJ2
  go_wp2_with fail
  go_ret2
  exact ⟨rfl, HB3.out⟩
theorem truthB_some {md : ModelD} {s : ByteArray} {t : GT} (h0 : s.size ≠ 0) (h : readOf s = some t) : truthB md s = decide (judg md t = (1, 0)) := by
  unfold truthB; rw [if_neg h0, h]
theorem truthB_none {md : ModelD} {s : ByteArray} (h0 : s.size ≠ 0) (h : readOf s = none) : truthB md s = false := by
  unfold truthB; rw [if_neg h0, h]
theorem size_zero {s : ByteArray} : s.size = 0 ↔ s = ⟨#[]⟩ := by
  constructor
  · intro h
    have : s.data.toList = [] := List.eq_nil_of_length_eq_zero (by rw [ba_len]; exact h)
    exact ByteArray.ext (Array.ext' this)
  · rintro rfl; rfl
set_option maxHeartbeats 4000000 in
set_option maxRecDepth 100000 in
theorem truth_walk (md : ModelD) (v : ModelV) (s : ByteArray) (w : World) (hz : md.Sml) (hM : ModelM false (From 0) w md v) (hv : GRng w) :
    Calls Tryz.prog 90 #[.agg (v.cs md).toArray, .string s] w (fun e w' => e = .returned (.bool (truthB md s)) ∧ Below w.heap.size w w') := by
  obtain ⟨q, hq⟩ : ∃ q, truthB md s = q := ⟨_, rfl⟩
  rw [hq]
  rcases nz_list (s := s) with ⟨h1, h2⟩ | ⟨h1, h2⟩
  · have HQ : Hid (true = q) := by show _ = _; rw [← hq, h1]; rfl
    clear hq h1 hM hv
    go_enter Tryz.func90, Tryz.ntmps90
    go_wp2_with fail
    go_ret
    exact ⟨ret_bool HQ.out, (Below.refl _ _).alloc (Nat.le_refl _) _⟩
  · have h0 : s.size ≠ 0 := fun h => h1 (size_zero.1 h)
    obtain ⟨w1, hw1⟩ : ∃ w1, w.alloc (.cells (v.cs md).toArray 31) = w1 := ⟨_, rfl⟩
    have hb1 : Below w.heap.size w w1 := hw1 ▸ (Below.refl _ _).alloc (Nat.le_refl _) _
    have hx1 : Arr w1 w.heap.size 31 (v.cs md) := hw1 ▸ Arr.new w (v.cs md) _
    have HR := Lib.hid (Read_walkA s w1 (hv.below hb1))
    have HX := Lib.hid hx1
    have HB1 := Lib.hid hb1
    have HW1 := Lib.hid hw1
    have HM := Lib.hid hM
    have HQ := Lib.hid hq
    have HZ := Lib.hid h0
    clear hq h1 hM hv hb1 hx1 hw1 h0
    go_enter Tryz.func90, Tryz.ntmps90
    go_upto_region 1 with fail
    rw [HW1.out]
    go_wp2_with fail
    refine HR.out.mono ?_
    intro e w2 hr
    obtain ⟨hb2, g, a, c, cs, rfl, hg, hA⟩ := hr.answer
    rcases hA.told with ⟨t, hro, rfl, rfl⟩ | ⟨hro, rfl, hc⟩
    · obtain ⟨n, ga, gl, gc, rfl⟩ := gin_kt hg
      have hb3 := (Below.refl w2.heap.size w2).alloc (Nat.le_refl _) (.cells #[.int .u8 t.kd, .int .i64 n, .string t.tx, .slice ga gl gc] 80)
      have hb23 := hb2.trans (hb3.mono hb2.size)
      have HB3 := Lib.hid (HB1.out.trans (hb23.mono HB1.out.size))
      obtain ⟨m1, m2, m3⟩ := readOf_may hro
      have HK := Lib.hid (Kind_walk md v t _ _ hz m1 m2 m3 (hg.keepB hb3) (HM.out.grow HB3.out))
      obtain ⟨y0, y1, y2, y3, y4, y5⟩ := box6 HX.out hb23
      obtain ⟨z0, z1, z2, z3⟩ := box4 (Arr.new w2 [.int .u8 t.kd, .int .i64 n, .string t.tx, .slice ga gl gc] 80) (Below.refl _ _)
      obtain ⟨r, hr2⟩ : ∃ r, judg md t = r := ⟨_, rfl⟩
      have HQ2 : Hid (q = decide (r = (1, 0))) := by
        show _ = _
        rw [← HQ.out, truthB_some HZ.out hro, hr2]
      rw [hr2] at HK
      clear HR hr hA hg hb2 hb3 hb23 hro m1 m2 m3 hr2 hz HQ HM
      go_wp2_with fail
      refine HK.out.mono ?_
      rintro e w4 ⟨rfl, hb4⟩
      have HB4 := Lib.hid (HB3.out.trans (hb4.mono HB3.out.size))
      clear hb4 HK y0 y1 y2 y3 y4 y5 z0 z1 z2 z3
      obtain ⟨r1, r2⟩ := r
      by_cases e0 : r2 = 0
      · subst e0
        have HQ3 : Hid ((r1 == 1) = q) := by
          show _ = _
          rw [HQ2.out, Bool.eq_iff_iff]; simp
        clear HQ2
        go_wp2_with fail
        go_ret
        exact ⟨ret_bool HQ3.out, HB4.out⟩
      · have e1 : (r2 == 0) = false := by simpa using e0
        have HQ3 : Hid (false = q) := by
          show _ = _
          rw [HQ2.out]; simp [e0]
        clear HQ2 e0
        go_wp2_with fail
        go_ret
        exact ⟨ret_bool HQ3.out, HB4.out⟩
    · obtain ⟨ga, gl, gc, rfl⟩ := gin_zero hg
      have HB3 := Lib.hid (HB1.out.trans ((hb2.alloc hb2.size (.cells #[.int .u8 (0 : Nat), .int .i64 0, .string ⟨#[]⟩, .slice ga gl gc] 80)).mono HB1.out.size))
      have HQ2 : Hid (false = q) := by
        show _ = _
        rw [← HQ.out, truthB_none HZ.out hro]
      have e1 : (c != 0) = true := by simpa using hc
      clear HR hr hA hg hb2 hro HQ hc
      go_wp2_with fail
      go_ret
      exact ⟨ret_bool HQ2.out, HB3.out⟩
end Go.Proofs.YtfbbkmdhnkmonaaGreatDoor
