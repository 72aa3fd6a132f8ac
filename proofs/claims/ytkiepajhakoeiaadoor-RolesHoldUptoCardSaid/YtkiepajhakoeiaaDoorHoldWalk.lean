/- docketlaw20.RolesHold: its walk. -/
import Derived.Test.YtkiepajhakoeiaaDoorOwnStrs
import Derived.Test.YtkiepajhakoeiaaDoorLaw20
namespace Go.Proofs.YtkiepajhakoeiaaDoor
open Go.RowKit

set_option maxHeartbeats 2500000 in
set_option maxRecDepth 100000 in
theorem rolesHold_walk (v vn : Value) (l : List Rl) (names : List ByteArray) (deed : ByteArray) (w : World) (h : Rls w.heap.size w v l) (hl : l.length ≤ maxLen) (hn : Strs w.heap.size w vn names) (hnl : names.length ≤ maxLen) (hns : ∀ s ∈ names, s.size ≤ maxLen) (hd : deed.size ≤ maxLen) :
    Calls Tryd.prog 5 #[v, vn, .string deed] w fun e w' => e = .returned (.bool true) ∧ Below w.heap.size w w' := by
  have cG := law_great v vn l names w w.heap.size h hn hl hnl
  have cC := fun x W (hb : Below w.heap.size w W) (hx : Strs W.heap.size W x names) => roles_Closed v x l names W ((h.below hb).mono hb.size) hl hx hnl hns
  have cD := fun W (hb : Below w.heap.size w W) => ref_Closed v vn l names W ((h.below hb).mono hb.size) hl ((hn.below hb).mono hb.size) hnl
  have cM := fun x W (hb : Below w.heap.size w W) (hx : Strs W.heap.size W x names) => roles_May v x l names deed W ((h.below hb).mono hb.size) hl hx hnl hns hd
  have cN := fun W (hb : Below w.heap.size w W) => ref_May v vn l names deed W ((h.below hb).mono hb.size) hl ((hn.below hb).mono hb.size) hnl hd
  have cK := fun W (hb : Below w.heap.size w W) => roles_Check v l W ((h.below hb).mono hb.size) hl
  have cR := fun W (hb : Below w.heap.size w W) => (ref_Check W.heap.size v l W ((h.below hb).mono hb.size) hl).mono (R' := fun e w' => e = .returned (.int .i64 (chkP l)) ∧ w' = W) (by
    rintro e w' ⟨x, rfl, hx, rfl⟩
    rw [chk_same hx]
    exact ⟨rfl, rfl⟩)
  have cT := fun v1 v2 xs ys B W => law_texts B v1 v2 xs ys W
  have HN := Lib.hid hn
  obtain ⟨a, c, b, o, rfl, -, -⟩ := h.cells
  obtain ⟨an, cn, bn, on, rfl, hlen, -, -⟩ := hn.cells
  have HNL := Lib.hid hnl
  unfold maxLen at hl hnl
  clear h hn hns
  generalize closedE l names = x1 at *
  generalize mayE l names deed = x2 at *
  generalize chkP l = x3 at *
  go_enter Tryd.func5, Tryd.ntmps5
  go_wp2_with fail
  refine cG.mono ?_
  rintro e w1 ⟨bo, rfl, ⟨q, rfl⟩, hbo⟩
  cases bo with
  | true =>
    go_wp2
    go_ret
    exact ⟨rfl, below_drewN (Below.refl _ _) q⟩
  | false =>
  obtain ⟨hl40, hn11⟩ := hbo rfl
  clear hbo
  have hb1 : Below w.heap.size w (w.drewN q) := below_drewN (Below.refl _ _) q
  generalize w.drewN q = w1 at *
  obtain ⟨va2, vc2, w2, hap2, hO2, hg2⟩ := Own.appStrs (B := w.heap.size) (xs := []) (Own.nilStrs w1 w1.heap.size) (Nat.le_refl _) (HN.out.below hb1) (by show 0 + names.length ≤ 1000000; omega)
  have hb2 : Below w.heap.size w w2 := (Own.nil w1 w1.heap.size 9 1).belowGrown hb1 hb1.size hb1.size hg2
  simp only [List.nil_append, Nat.zero_add] at hap2 hO2
  have HAP2 := Lib.hid hap2
  have hvc2 := hO2.cap.1
  have HO2 := Lib.hid hO2
  have hS2 : Hid (∀ W, Below w2.heap.size w2 W → Strs W.heap.size W (.slice va2 names.length vc2) names) := fun W hb => ((own_strs HO2.out (Nat.le_refl _)).below hb).mono hb.size
  clear hap2 hO2 hg2 HO2
  go_wp2_with (at_builtin; refine wpList_append_run rfl _ _ _ rfl rfl rfl HAP2.out ?_)
  go_wp2_with fail
  refine (cC _ _ hb2 (hS2.out _ (Below.refl _ _))).mono ?_
  rintro e w3 ⟨va3, vc3, ns, rfl, hO3, hC3, hb3⟩
  have hb03 := hb2.trans (hb3.mono hb2.size)
  go_wp2_with fail
  refine (cD _ hb03).mono ?_
  rintro e w4 ⟨va4, vc4, ms, rfl, hO4, hC4, hb4⟩
  obtain rfl := closed_same hC3 hC4
  have hb04 := hb03.trans (hb4.mono hb03.size)
  have hb24 := hb3.trans (hb4.mono hb3.size)
  have hO3 := hO3.below hb4 (Nat.le_refl _)
  have HC3 := Lib.hid hC3
  clear hC4 hC3 cC cD
  go_wp2_with fail
  refine (cM _ _ hb04 (hS2.out _ hb24)).mono ?_
  rintro e w5 ⟨bo, rfl, hM5, hb5⟩
  have hb05 := hb04.trans (hb5.mono hb04.size)
  have hb25 := hb24.trans (hb5.mono hb24.size)
  have hO3 := hO3.below hb5 (Nat.le_refl _)
  have hO4 := hO4.below hb5 (Nat.le_refl _)
  go_wp2_with fail
  refine (cN _ hb05).mono ?_
  rintro e w6 ⟨bo', rfl, hM6, hb6⟩
  obtain rfl := mayIs_same hM5 hM6
  have hb06 := hb05.trans (hb6.mono hb05.size)
  have hb26 := hb25.trans (hb6.mono hb25.size)
  have hO3 := hO3.below hb6 (Nat.le_refl _)
  have hO4 := hO4.below hb6 (Nat.le_refl _)
  clear hM5 hM6 cM cN
  go_wp2_with fail
  refine (cK _ hb06).mono ?_
  rintro e w7 ⟨rfl, hb7⟩
  have hb07 := hb06.trans (hb7.mono hb06.size)
  have hb27 := hb26.trans (hb7.mono hb26.size)
  have hO3 := hO3.below hb7 (Nat.le_refl _)
  have hO4 := hO4.below hb7 (Nat.le_refl _)
  go_wp2_with fail
  refine (cR _ hb07).mono ?_
  rintro e w8 ⟨rfl, rfl⟩
  go_wp2_with fail
  have hl32 := closed_len HC3.out
  refine (cT _ _ ns ns w8.heap.size w8 (own_strs hO3 (Nat.le_refl _)) (own_strs hO4 (Nat.le_refl _)) (by unfold maxLen; omega) (by unfold maxLen; omega)).mono ?_
  rintro e w9 ⟨rfl, q9, rfl⟩
  rw [decide_eq_true rfl]
  go_wp2
  have hb08 := below_drewN hb07 q9
  have hb28 := below_drewN hb27 q9
  have hO3 := hO3.drewN q9
  clear hO4 hb07 hb27 hb7 hb06 hb26 hb6 hb5 hb05 hb25 hb24 hb04 hb4 hb3 hb03 cG cK cR
  generalize hwv : w8.drewN q9 = w9 at *
  clear hwv
  go_loopw [17] (fun i wr => ∃ (k : Nat) (cells : List Value), k ≤ ns.length ∧ i = .int .i64 k ∧ Own wr w2.heap.size 9 1 va3 vc3 ns.length cells ∧ Below w2.heap.size w2 wr ∧ Below w.heap.size w wr) (fun i _ => ns.length - (intOf i).toNat)
  case atStart => exact ⟨0, _, by omega, rfl, hO3, hb28, hb08⟩
  case round =>
    obtain ⟨k, cells, hk, rfl, hOwn, hb2r, hb0r⟩ := hrel
    by_cases hlt : k < ns.length
    · have hlen := hOwn.length
      have hcap := hOwn.cap.1
      obtain ⟨g, rfl, hg1, hg2, hcell, hfz⟩ := hOwn.cell (by omega)
      have y1 := hcell k _ (List.getElem?_eq_getElem (by omega))
      have y2 := hfz k
      have hOn := Lib.hid (hOwn.set (j := k) (.string ⟨#[55, 55]⟩))
      have hBn := Lib.hid (hb2r.setCell (p := ⟨g, k, none⟩) (show _ ≤ g from hg1) (.string ⟨#[55, 55]⟩))
      have hBm := Lib.hid (hb0r.setCell (p := ⟨g, k, none⟩) (show _ ≤ g from Nat.le_trans hb2.size hg1) (.string ⟨#[55, 55]⟩))
      clear hcell hfz hOwn hb2r hb0r
      generalize cells[k] = u at *
      go_wp2
      go_roundw
      case rel => exact ⟨k + 1, _, by omega, by go_num, hOn.out, hBn.out, hBm.out⟩
      case measure => simp [intOf]; omega
    · have HT := cT _ _ names names wr.heap.size wr (hS2.out _ hb2r) ((HN.out.below hb0r).mono hb0r.size) (by unfold maxLen; omega) (by unfold maxLen; omega)
      rw [decide_eq_true rfl] at HT
      have hBm := Lib.hid hb0r
      clear hOwn hb2r hb0r cT
      go_wp2_with fail
      refine HT.mono ?_
      rintro e w10 ⟨rfl, q10, rfl⟩
      go_wp2
      go_ret
      exact ⟨rfl, below_drewN hBm.out _⟩
end Go.Proofs.YtkiepajhakoeiaaDoor
