/- package guard: a node's text, by induction. -/
import Derived.Test.YtkmgbkcpjlilpaaDoorGTextW
namespace Go.Proofs.YtkmgbkcpjlilpaaDoor
open Go.RowKit

set_option maxHeartbeats 4000000 in
set_option maxRecDepth 100000 in
theorem text_walk : ∀ (t : GT) (v : Value) (w : World), t.may → NodeV t v → t.toGD.size ≤ 10000000 → TabW w → TextC t v w
  | .leaf k n s, v, w, hm, hv, hs, hw => by
    obtain ⟨a, c, rfl⟩ := hv
    exact ⟨_, _, rfl, leafText_walk k n s a c w hm (by simp [GT.toGD, GD.size, GD.sizes] at hs; omega) hw⟩
  | .one k a, v, w, hm, hv, hs, hw => by
    obtain ⟨u, rfl, hu⟩ := hv
    have hb1 : Below w.heap.size w (w.alloc (.cells #[u] 85)) := (Below.refl _ _).alloc (Nat.le_refl _) _
    have hla : a.txt.length ≤ 400000000 := by have := txt_len a hm.2; simp [GT.toGD, GD.size, GD.sizes] at hs; omega
    have hlk : a.kid.length ≤ 400000002 := by have := wrapT_len a.isLeaf a.txt; show (wrapT _ _).length ≤ _; omega
    have hsh : (⟨(GT.one k a).txt.toArray⟩ : ByteArray).data.toList = [110, 111, 116, 32] ++ a.kid := by simp [GT.txt]
    have hc := within_walk a u _ hla hu (text_walk a u _ hm.2 hu (by simp [GT.toGD, GD.size, GD.sizes] at hs; omega) (hw.below hb1))
    refine ⟨_, _, rfl, ?_⟩
    show Calls Tryd.prog 123 _ _ _
    generalize (GT.one k a).txt = TT at *
    generalize a.kid = A at *
    have HC := Lib.hid hc
    have HB1 := Lib.hid hb1
    have HSH := Lib.hid hsh
    clear hc hb1 hm hu hs hw hla hsh
    go_enter Tryd.func123, Tryd.ntmps123
    go_wp2_with fail
    refine HC.out.mono ?_
    rintro e w2 ⟨rfl, hb⟩
    have HB := Lib.hid (HB1.out.trans (hb.mono HB1.out.size))
    clear hb HC
    go_wp2_with fail
    go_ret
    exact ⟨ret_ba (by rw [HSH.out]; simp [ByteArray.data_append]), HB.out⟩
  | .two k a b, v, w, hm, hv, hs, hw => by
    obtain ⟨n0, s0, p0, l0, c0, u1, u2, rfl, hu1, hu2⟩ := hv
    have hb1 : Below w.heap.size w (w.alloc (.cells #[.int .u8 k, .int .i64 n0, .string s0, .slice p0 l0 c0, u1, u2] 87)) := (Below.refl _ _).alloc (Nat.le_refl _) _
    have hsz : a.toGD.size ≤ 10000000 ∧ b.toGD.size ≤ 10000000 := by simp [GT.toGD, GD.size, GD.sizes] at hs; omega
    have hla : a.txt.length ≤ 400000000 := by have := txt_len a hm.2.1; omega
    have hlb : b.txt.length ≤ 400000000 := by have := txt_len b hm.2.2; omega
    have hka : a.kid.length ≤ 400000002 := by have := wrapT_len a.isLeaf a.txt; show (wrapT _ _).length ≤ _; omega
    have hkb : b.kid.length ≤ 400000002 := by have := wrapT_len b.isLeaf b.txt; show (wrapT _ _).length ≤ _; omega
    have hko : (opT k).length ≤ 3 := opT_len k
    have hsh : (⟨(GT.two k a b).txt.toArray⟩ : ByteArray).data.toList = a.kid ++ 32 :: (opT k ++ 32 :: b.kid) := by simp [GT.txt]
    have HC1 := Lib.hid (fun W (h : Below w.heap.size w W) => within_walk a u1 W hla hu1 (text_walk a u1 W hm.2.1 hu1 hsz.1 (hw.below h)))
    have HC2 := Lib.hid (fun W (h : Below w.heap.size w W) => within_walk b u2 W hlb hu2 (text_walk b u2 W hm.2.2 hu2 hsz.2 (hw.below h)))
    have HSG := Lib.hid (fun W => sign_walk k W hm.1)
    refine ⟨_, _, rfl, ?_⟩
    show Calls Tryd.prog 128 _ _ _
    generalize (GT.two k a b).txt = TT at *
    generalize a.kid = A at *
    generalize b.kid = B at *
    generalize opT k = O at *
    have l1 : ¬ 9223372036854775807 < A.length + 1 := by omega
    have l2 : ¬ 9223372036854775807 < A.length + 1 + O.length := by omega
    have l3 : ¬ 9223372036854775807 < A.length + 1 + O.length + 1 := by omega
    have l4 : ¬ 9223372036854775807 < A.length + 1 + O.length + 1 + B.length := by omega
    have HSH := Lib.hid hsh
    have HB1 := Lib.hid hb1
    have HX := Lib.hid (Arr.new w [.int .u8 k, .int .i64 n0, .string s0, .slice p0 l0 c0, u1, u2] 87)
    clear hb1 hm hu1 hu2 hs hw hsz hla hlb hsh hka hkb hko
    go_enter Tryd.func128, Tryd.ntmps128
    go_wp2_with fail
    obtain ⟨w1, hw1⟩ : ∃ w1, w.alloc (.cells #[.int .u8 k, .int .i64 n0, .string s0, .slice p0 l0 c0, u1, u2] 87) = w1 := ⟨_, rfl⟩
    rw [hw1] at HB1 HX ⊢
    have x0 := HX.out.cell (j := 0) (by simp)
    have x4 := HX.out.cell (j := 4) (by simp)
    have x5 := HX.out.cell (j := 5) (by simp)
    simp only [List.getElem_cons_zero, List.getElem_cons_succ] at x0 x4 x5
    have HSW : Hid (∀ W, Below w1.heap.size w1 W → (Below w1.heap.size w1 W ∧ W.cell? ⟨w.heap.size, 0, none⟩ = some (.int .u8 k) ∧ W.cell? ⟨w.heap.size, 4, none⟩ = some u1 ∧ W.cell? ⟨w.heap.size, 5, none⟩ = some u2)) := fun W hb => ⟨hb, cellBelow2 hb x0, cellBelow2 hb x4, cellBelow2 hb x5⟩
    have hq0 := (Below.refl w1.heap.size w1).drew
    clear x0 x4 x5 hw1 HX
    go_region_held3 (fun W => Below w1.heap.size w1 W ∧ W.cell? ⟨w.heap.size, 0, none⟩ = some (.int .u8 k) ∧ W.cell? ⟨w.heap.size, 4, none⟩ = some u1 ∧ W.cell? ⟨w.heap.size, 5, none⟩ = some u2)
      (first | exact HSW.out _ (Below.refl _ _) | exact HSW.out _ hq0 | exact HSW.out _ hq1 | exact HSW.out _ hq2 | exact HSW.out _ hq3)
      (first
        | (go_at_call 130; refine (HSG.out _).mono ?_; rintro e W2 ⟨rfl, hb⟩; have hq2 := hq1.trans (hb.mono hq1.size); clear hb HSG)
        | (go_at_call 125; refine (HC1.out _ (HB1.out.trans (hq0.mono HB1.out.size))).mono ?_; rintro e W1 ⟨rfl, hb⟩; have hq1 := hq0.trans (hb.mono hq0.size); clear hb HC1)
        | (go_at_call 125; refine (HC2.out _ (HB1.out.trans (hq2.mono HB1.out.size))).mono ?_; rintro e W3 ⟨rfl, hb⟩; have hq3 := hq2.trans (hb.mono hq2.size); clear hb))
    have HQ := Lib.hid hq3
    clear hq0 hq1 hq2 hq3
    go_wp2_with fail
    go_ret
    exact ⟨ret_ba (by rw [HSH.out]; simp [ByteArray.data_append]), HB1.out.trans (HQ.out.mono HB1.out.size)⟩
end Go.Proofs.YtkmgbkcpjlilpaaDoor
