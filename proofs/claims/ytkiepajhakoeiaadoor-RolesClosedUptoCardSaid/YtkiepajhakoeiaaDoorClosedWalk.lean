/- docketlaw20.RolesClosed: its walk. -/
import Derived.Test.YtkiepajhakoeiaaDoorOwnStrs
import Derived.Test.YtkiepajhakoeiaaDoorLaw20
import Derived.Test.YtkiepajhakoeiaaDoorAlive
namespace Go.Proofs.YtkiepajhakoeiaaDoor
open Go.RowKit

def heldK (l : List Rl) (names a : List ByteArray) (s : ByteArray) (k : Nat) : Bool := hasB names s || (l.take k).any (fun q => hasB a q.name && hasB q.holds s)
theorem heldK_zero (l : List Rl) (names a : List ByteArray) (s : ByteArray) : heldK l names a s 0 = hasB names s := by simp [heldK]
theorem heldK_succ {l : List Rl} {names a : List ByteArray} {s : ByteArray} {k : Nat} (h : k < l.length) : heldK l names a s (k + 1) = (heldK l names a s k || (hasB a l[k].name && hasB l[k].holds s)) := by
  rw [heldK, any_snoc h, heldK, Bool.or_assoc]
theorem heldK_end {l : List Rl} {names a : List ByteArray} (h : ClosedTo l names a) (he : closedE l names = 0) {r : Rl} (hr : r ∈ l) (ha : hasB a r.name = true) {k : Nat} (hk : l.length ≤ k) : heldK l names a r.name k = true := by
  rw [heldK, any_end hk]
  cases hn : hasB names r.name
  · rw [closed_held h he hr ha hn]; rfl
  · rfl

set_option maxHeartbeats 2500000 in
set_option maxRecDepth 100000 in
theorem rolesClosed_walk (v vn vm : Value) (l : List Rl) (names more : List ByteArray) (w : World) (h : Rls w.heap.size w v l) (hl : l.length ≤ maxLen) (hn : Strs w.heap.size w vn names) (hnl : names.length ≤ maxLen) (hns : ∀ s ∈ names, s.size ≤ maxLen)
    (hm : Strs w.heap.size w vm more) (hml : more.length ≤ maxLen) (hms : ∀ s ∈ more, s.size ≤ maxLen) :
    Calls Tryd.prog 4 #[v, vn, vm] w fun e w' => e = .returned (.bool true) ∧ Below w.heap.size w w' := by
  have cG := fun W (hb : Below w.heap.size w W) => law_great v vn l names W w.heap.size (h.below hb) (hn.below hb) hl hnl
  have cH := fun W (hb : Below w.heap.size w W) => law_great v vm l more W w.heap.size (h.below hb) (hm.below hb) hl hml
  have cC := fun W (hb : Below w.heap.size w W) => roles_Closed v vn l names W ((h.below hb).mono hb.size) hl ((hn.below hb).mono hb.size) hnl hns
  have cB := fun x W (hb : Below w.heap.size w W) (hx : Strs W.heap.size W x (names ++ more)) (hxl : (names ++ more).length ≤ maxLen) => roles_Closed v x l (names ++ more) W ((h.below hb).mono hb.size) hl hx hxl (by
    intro s hs
    rcases List.mem_append.1 hs with hs | hs
    · exact hns s hs
    · exact hms s hs)
  have cA := fun x ys W (hb : Below w.heap.size w W) (hx : Strs W.heap.size W x ys) (hxl : ys.length ≤ maxLen) (hxs : ∀ s ∈ ys, s.size ≤ maxLen) => roles_Closed v x l ys W ((h.below hb).mono hb.size) hl hx hxl hxs
  have H := Lib.hid h; have HN := Lib.hid hn; have HM := Lib.hid hm
  have HNM : Hid (∀ r ∈ l, r.name.size ≤ maxLen) := fun r hr => by
    obtain ⟨_, _, _, _, _, _, hC⟩ := h.cells
    obtain ⟨j, hj, rfl⟩ := List.mem_iff_getElem.1 hr
    exact (hC.ok j hj).name
  obtain ⟨a, c, b, o, rfl, -, hC⟩ := h.cells
  have HC := Lib.hid hC
  obtain ⟨an, cn, bn, on, rfl, hlen, -, -⟩ := hn.cells
  obtain ⟨am, cm, bm, om, rfl, hlem, -, -⟩ := hm.cells
  clear h hn hm hns hms hC
  unfold maxLen at hl hnl hml
  go_enter Tryd.func4, Tryd.ntmps4
  go_wp2_with fail
  refine (law_alive _).mono ?_
  rintro e w1 ⟨rfl, hb1⟩
  go_wp2_with fail
  refine (cG _ hb1).mono ?_
  rintro e w2 ⟨bo, rfl, ⟨q, rfl⟩, hbo⟩
  cases bo with
  | true =>
    go_wp2
    go_ret
    exact ⟨rfl, below_drewN hb1 q⟩
  | false =>
  obtain ⟨hl40, hn11⟩ := hbo rfl
  go_wp2_with fail
  refine (cH _ (below_drewN hb1 q)).mono ?_
  rintro e w2 ⟨bo, rfl, ⟨q', rfl⟩, hbo⟩
  rw [World.drewN_drewN] at *
  cases bo with
  | true =>
    go_wp2
    go_ret
    exact ⟨rfl, below_drewN hb1 _⟩
  | false =>
  obtain ⟨-, hm11⟩ := hbo rfl
  clear hbo cG cH
  by_cases h24 : 1024 < names.length + more.length
  · have g : decide (1024 < (names.length : Int) + (more.length : Int)) = true := decide_eq_true (by omega)
    go_wp2
    go_ret
    exact ⟨rfl, below_drewN hb1 _⟩
  have g : decide (1024 < (names.length : Int) + (more.length : Int)) = false := decide_eq_false (by omega)
  have hb2 := below_drewN hb1 (q + q')
  generalize hw2 : w1.drewN (q + q') = w2 at *
  clear hw2
  obtain ⟨va3, vc3, w3, hap3, hO3, hg3⟩ := Own.appStrs (B := w.heap.size) (xs := []) (Own.nilStrs w2 w2.heap.size) (Nat.le_refl _) (HN.out.below hb2) (by show 0 + names.length ≤ 1000000; omega)
  have hb3 : Below w.heap.size w w3 := (Own.nil w2 w2.heap.size 9 1).belowGrown hb2 hb2.size hb2.size hg3
  have hs3 := hg3.size
  obtain ⟨va4, vc4, w4, hap4, hO4, hg4⟩ := Own.appStrs (B := w.heap.size) hO3 hs3 (HM.out.below hb3) (by show _ + more.length ≤ 1000000; omega)
  have hb4 : Below w.heap.size w w4 := hO3.belowGrown hb3 hb2.size hb3.size hg4
  simp only [List.nil_append, Nat.zero_add] at hap3 hap4 hO3 hO4
  have HAP3 := Lib.hid hap3; have HAP4 := Lib.hid hap4
  have HO4 := Lib.hid hO4
  have hvc3 := hO3.cap.1
  have hvc4 := hO4.cap.1
  clear hap3 hap4 hO3 hg3 hO4 hg4
  go_wp2_with (first | (at_builtin; refine wpList_append_run rfl _ _ _ rfl rfl rfl HAP3.out ?_; clear HAP3) | (at_builtin; refine wpList_append_run rfl _ _ _ rfl rfl rfl HAP4.out ?_))
  have he1 : closedE l names = chkP l := closedE_few (by omega)
  have he2 : closedE l (names ++ more) = chkP l := closedE_few (by rw [List.length_append]; omega)
  have HE1 := Lib.hid he1; have HE2 := Lib.hid he2
  refine (cC _ hb4).mono ?_
  rw [he1]
  rintro e w5 ⟨va5, vc5, ns, rfl, hO5, hC5, hb5⟩
  have hO4 := HO4.out.below hb5 (Nat.le_refl _)
  have hb05 : Below w.heap.size w w5 := hb4.trans (hb5.mono hb4.size)
  have hS5 : Strs w5.heap.size w5 (.slice va4 (names.length + more.length) vc4) (names ++ more) := by
    have := own_strs (xs := names ++ more) (vc := vc4) (va := va4) (B := w5.heap.size) (by rw [List.length_append]; exact hO4) (Nat.le_refl _)
    rw [List.length_append] at this; exact this
  have cB5 := cB _ _ hb05 hS5 (by rw [List.length_append]; unfold maxLen; omega)
  rw [he2] at cB5
  have HC5 := Lib.hid hC5
  have HS5 := Lib.hid (own_strs hO5 (Nat.le_refl w5.heap.size))
  clear hO4 hO5 hS5 hC5 HO4 cC cB HAP4 hb4 hb5 hb1 hb2 hb3 hvc3 hvc4 he1 he2 hs3 g hlen hlem
  have hlen5 : ns.length ≤ 32 := closed_len HC5.out
  by_cases hk : chkP l = 0
  · rw [hk] at cB5
    go_wp2_with fail
    refine cB5.mono ?_
    rintro e w6 ⟨va6, vc6, ms, rfl, hO6, hC6, hb6⟩
    have hb06 : Below w.heap.size w w6 := hb05.trans (hb6.mono hb05.size)
    have HC6 := Lib.hid hC6
    have hlen6 : ms.length ≤ 32 := closed_len HC6.out
    have HS6 := Lib.hid (own_strs hO6 (Nat.le_refl w6.heap.size))
    have hS56 := HS5.out.below hb6
    have cA6 := cA _ ns _ hb06 (hS56.mono hb6.size) (by unfold maxLen; omega) (closed_sizes HC5.out HNM.out)
    have heq : closedE l ns = 0 := by rw [closedE_few (by omega), hk]
    rw [heq] at cA6
    have HQ := Lib.hid heq
    have HK1 : Hid (closedE l names = 0) := HE1.out.trans hk
    have HK2 : Hid (closedE l (names ++ more) = 0) := HE2.out.trans hk
    clear heq hk hO6 hC6 cA cB5 HE1 HE2
    go_wp2_with fail
    refine cA6.mono ?_
    rintro e w7 ⟨va7, vc7, bs, rfl, hO7, hC7, hb7⟩
    obtain rfl := closed_again HC5.out hC7 HK1.out HQ.out
    have hb07 : Below w.heap.size w w7 := hb06.trans (hb7.mono hb06.size)
    have hT7 := law_texts w7.heap.size _ _ bs bs w7 (own_strs hO7 (Nat.le_refl _)) ((Strs.below (hS56.mono hb6.size) hb7).mono hb7.size) (by unfold maxLen; omega) (by unfold maxLen; omega)
    rw [decide_eq_true rfl] at hT7
    have HS7 := Lib.hid ((Strs.below (hS56.mono hb6.size) hb7).mono hb7.size)
    have HT7 := Lib.hid ((Strs.below HS6.out hb7).mono hb7.size)
    clear hO7 hC7 cA6 hS56 HS6 HS5 hb7 hb06 hb6 hb05 HQ
    go_wp2_with fail
    refine hT7.mono ?_
    rintro e w8 ⟨rfl, q8, rfl⟩
    clear hT7
    have hb08 := below_drewN hb07 q8
    have HS8 : Hid (∀ q, Strs w7.heap.size ((w7.drewN q8).drewN q) (.slice va5 bs.length vc5) bs) := fun q => Strs.below HS7.out (below_drewN (below_drewN (Below.refl _ _) _) _)
    have HT8 : Hid (∀ q, Strs w7.heap.size ((w7.drewN q8).drewN q) (.slice va6 ms.length vc6) ms) := fun q => Strs.below HT7.out (below_drewN (below_drewN (Below.refl _ _) _) _)
    have HU8 : Strs w7.heap.size (w7.drewN q8) (.slice va5 bs.length vc5) bs := Strs.below HS7.out (below_drewN (Below.refl _ _) _)
    generalize w7.drewN q8 = w8 at *
    have HAN : Hid (∀ s q, Calls Tryd.prog 15 #[.slice an names.length cn, .string s] (w8.drewN q) fun e w' => e = .returned (.bool (hasB names s)) ∧ w' = w8.drewN q) := fun s q => law_among _ _ _ _ _ (HN.out.below (below_drewN hb08 q)) (by unfold maxLen; omega)
    have HAA : Hid (∀ s q, Calls Tryd.prog 15 #[.slice va5 bs.length vc5, .string s] (w8.drewN q) fun e w' => e = .returned (.bool (hasB bs s)) ∧ w' = w8.drewN q) := fun s q => law_among _ _ _ _ _ (HS8.out q) (by unfold maxLen; omega)
    have HAB : Hid (∀ s q, Calls Tryd.prog 15 #[.slice va6 ms.length vc6, .string s] (w8.drewN q) fun e w' => e = .returned (.bool (hasB ms s)) ∧ w' = w8.drewN q) := fun s q => law_among _ _ _ _ _ (HT8.out q) (by unfold maxLen; omega)
    have HAH : Hid (∀ j (hj : j < l.length) s q, Calls Tryd.prog 15 #[l[j].hv, .string s] (w8.drewN q) fun e w' => e = .returned (.bool (hasB l[j].holds s)) ∧ w' = w8.drewN q) := fun j hj s q => law_among _ _ _ _ _ ((HC.out.hs j hj).below (below_drewN hb08 q)) (HC.out.ok j hj).hl
    obtain ⟨aa, ca, ba, oa, hea, -, haa, hca⟩ := HU8.cells
    injection hea with e1 e2 e3
    subst e1 e3
    have HAa := Lib.hid haa; have HCa := Lib.hid hca
    clear haa hca e2 HU8 HS8 HT8 HS7 HT7 hb07
    go_wp2
    go_loopw [15] (fun i wr => ∃ k q : Nat, k ≤ bs.length ∧ i = .int .i64 k ∧ wr = w8.drewN q) (fun i _ => bs.length - (intOf i).toNat)
    case atStart => exact ⟨0, 0, by omega, rfl, rfl⟩
    case round =>
      obtain ⟨k, q, hk, rfl, rfl⟩ := hrel
      by_cases hlt : k < bs.length
      · obtain ⟨rfl, hba⟩ := HAa.out (by omega)
        have y0 := HCa.out k hlt
        have hin : hasB ms bs[k] = true := hasB_yes (closed_sub HC5.out HC6.out HK1.out HK2.out (fun n hn => List.mem_append.2 (.inl hn)) _ (List.getElem_mem hlt))
        have kb := fun q => HAB.out bs[k] q
        rw [hin] at kb
        have KB := Lib.hid kb
        clear kb hin
        rcases Nat.eq_zero_or_pos k with rfl | hpos
        · rw [Nat.add_zero] at y0
          obtain ⟨s1, hs1⟩ : ∃ s, bs[0] = s := ⟨_, rfl⟩
          rw [hs1] at y0
          have KB : Hid (∀ q, Calls Tryd.prog 15 #[.slice va6 ms.length vc6, .string s1] (w8.drewN q) fun e w' => e = .returned (.bool true) ∧ w' = w8.drewN q) := hs1 ▸ KB
          clear hs1
          go_wp2
          go_quiet ((go_at_call 15; exact q_same (KB.out _)))
          go_wp2
          go_roundw
          case rel => exact ⟨0 + 1, _, by omega, by go_num, rfl⟩
          case measure => simp [intOf]; omega
        · obtain ⟨m, rfl⟩ : ∃ m, k = m + 1 := ⟨k - 1, by omega⟩
          have y1 := HCa.out m (by omega)
          have hlt2 := lt_bytes bs[m] bs[m + 1]
          rw [decide_eq_true (closed_lt HC5.out m hlt)] at hlt2
          have g : decide (0 < (m : Int) + 1) = true := decide_eq_true (by omega)
          obtain ⟨s0, hs0⟩ : ∃ s, bs[m] = s := ⟨_, rfl⟩
          obtain ⟨s1, hs1⟩ : ∃ s, bs[m + 1] = s := ⟨_, rfl⟩
          rw [hs0] at y1 hlt2
          rw [hs1] at y0 hlt2
          have KB : Hid (∀ q, Calls Tryd.prog 15 #[.slice va6 ms.length vc6, .string s1] (w8.drewN q) fun e w' => e = .returned (.bool true) ∧ w' = w8.drewN q) := hs1 ▸ KB
          clear hs0 hs1
          go_wp2
          go_quiet ((go_at_call 15; exact q_same (KB.out _)))
          go_wp2
          go_roundw
          case rel => exact ⟨m + 1 + 1, _, by omega, by go_num, rfl⟩
          case measure => simp [intOf]; omega
      · clear HAa HCa HAB HC6 HK2
        go_wp2
        go_loopw [16] (fun i wr => ∃ k q : Nat, k ≤ l.length ∧ i = .int .i64 k ∧ wr = w8.drewN q) (fun i _ => l.length - (intOf i).toNat)
        case atStart => exact ⟨0, q, by omega, rfl, rfl⟩
        case round =>
          obtain ⟨k, q, hk, rfl, rfl⟩ := hrel
          by_cases hlt : k < l.length
          · obtain ⟨rfl, hbl⟩ := HC.out.at0 (by omega)
            have x0 := (hb08.cell (p := ⟨b, o + k * 3, none⟩) hbl).trans (HC.out.c0 k hlt)
            obtain ⟨nm, hnm⟩ : ∃ nm, l[k].name = nm := ⟨_, rfl⟩
            rw [hnm] at x0
            have HSt : Hid (hasB names nm = true → hasB bs nm = true) := hnm ▸ closed_start HC5.out HK1.out (List.getElem_mem hlt)
            have HEn : Hid (hasB bs nm = true → heldK l names bs nm l.length = true) := fun h => by
              rw [← hnm] at h ⊢
              exact heldK_end HC5.out HK1.out (List.getElem_mem hlt) h (Nat.le_refl _)
            clear hnm
            have kn := fun q => HAN.out nm q
            have ka := fun q => HAA.out nm q
            have hz : heldK l names bs nm 0 = hasB names nm := heldK_zero _ _ _ _
            obtain ⟨bn', hbn⟩ : ∃ x, hasB names nm = x := ⟨_, rfl⟩
            obtain ⟨ba', hba'⟩ : ∃ x, hasB bs nm = x := ⟨_, rfl⟩
            rw [hbn] at kn hz
            rw [hba'] at ka
            have KN := Lib.hid kn; have KA := Lib.hid ka; have HZ := Lib.hid hz
            have HSt : Hid (bn' = true → ba' = true) := fun h => hba' ▸ HSt.out (hbn.trans h)
            have HEn : Hid (ba' = true → heldK l names bs nm l.length = true) := fun h => HEn.out (hba'.trans h)
            clear kn ka hbn hba' hz
            cases bn' with
            | false =>
              go_wp2_with (go_at_call 15; refine (KN.out _).mono ?_; rintro e wx ⟨rfl, rfl⟩)
              go_loopw [17, 18] (fun h i wr => ∃ j q : Nat, j ≤ l.length ∧ h = .bool (heldK l names bs nm j) ∧ i = .int .i64 j ∧ wr = w8.drewN q) (fun _ i _ => l.length - (intOf i).toNat)
              case atStart => exact ⟨0, q, by omega, by rw [HZ.out], rfl, rfl⟩
              case round =>
                obtain ⟨j, q, hj, rfl, rfl, rfl⟩ := hrel
                by_cases hlj : j < l.length
                · have z0 := (hb08.cell (p := ⟨b, o + j * 3, none⟩) hbl).trans (HC.out.c0 j hlj)
                  have z1 := (hb08.cell (p := ⟨b, o + j * 3 + 1, none⟩) hbl).trans (HC.out.c1 j hlj)
                  have ha := fun q => HAA.out l[j].name q
                  have hh := fun q => HAH.out j hlj nm q
                  have hsu := heldK_succ (names := names) (a := bs) (s := nm) hlj
                  obtain ⟨sj, hsj⟩ : ∃ s, l[j].name = s := ⟨_, rfl⟩
                  obtain ⟨ra, hra⟩ : ∃ s, l[j].ha = s := ⟨_, rfl⟩
                  obtain ⟨rn, hrn⟩ : ∃ s, l[j].holds.length = s := ⟨_, rfl⟩
                  obtain ⟨rc, hrc⟩ : ∃ s, l[j].hc = s := ⟨_, rfl⟩
                  obtain ⟨b1, hb1⟩ : ∃ s, hasB bs l[j].name = s := ⟨_, rfl⟩
                  obtain ⟨b2, hb2⟩ : ∃ s, hasB l[j].holds nm = s := ⟨_, rfl⟩
                  rw [hb1] at ha hsu
                  rw [hb2] at hh hsu
                  rw [hsj] at z0 ha
                  simp only [Rl.hv, hra, hrn, hrc] at z1 hh
                  have KA2 := Lib.hid ha; have KH2 := Lib.hid hh; have HSU := Lib.hid hsu
                  clear ha hh hsu hsj hra hrn hrc hb1 hb2
                  cases hd : heldK l names bs nm j with
                  | true =>
                    rw [hd] at HSU
                    have HN2 : Hid (heldK l names bs nm (j + 1) = true) := HSU.out
                    clear hd HSU
                    go_wp2
                    go_quiet (fail)
                    go_wp2
                    go_roundw
                    case rel => exact ⟨j + 1, _, by omega, by rw [HN2.out], by go_num, rfl⟩
                    case measure => simp [intOf]; omega
                  | false =>
                    rw [hd] at HSU
                    cases b1 with
                    | false =>
                      have HN2 : Hid (heldK l names bs nm (j + 1) = false) := HSU.out
                      clear hd HSU
                      go_wp2
                      go_quiet ((go_at_call 15; exact q_same (KA2.out _)))
                      go_wp2
                      go_roundw
                      case rel => exact ⟨j + 1, _, by omega, by rw [HN2.out], by go_num, rfl⟩
                      case measure => simp [intOf]; omega
                    | true =>
                      have HN2 : Hid (heldK l names bs nm (j + 1) = b2) := HSU.out
                      clear hd HSU
                      go_wp2
                      go_quiet ((go_at_call 15; first | with_reducible exact q_same (KA2.out _) | exact q_same (KH2.out _)))
                      go_wp2
                      go_roundw
                      case rel => exact ⟨j + 1, _, by omega, by rw [HN2.out], by go_num, rfl⟩
                      case measure => simp [intOf]; omega
                · obtain rfl : j = l.length := by omega
                  cases ba' with
                  | false =>
                    clear HAN HAA HAH HC HC5
                    go_wp2_with (go_at_call 15; refine (KA.out _).mono ?_; rintro e wx ⟨rfl, rfl⟩)
                    go_roundw
                    case rel => exact ⟨k + 1, q, by omega, by go_num, rfl⟩
                    case measure => simp [intOf]; omega
                  | true =>
                    have hend := HEn.out (by first | trivial | rfl)
                    rw [hend]
                    clear HAN HAA HAH HC HC5 hend
                    go_wp2_with (go_at_call 15; refine (KA.out _).mono ?_; rintro e wx ⟨rfl, rfl⟩)
                    go_roundw
                    case rel => exact ⟨k + 1, q, by omega, by go_num, rfl⟩
                    case measure => simp [intOf]; omega
            | true =>
              obtain rfl : ba' = true := HSt.out rfl
              go_wp2_with (go_at_call 15; (first | with_reducible refine (KN.out _).mono ?_ | with_reducible refine (KA.out _).mono ?_); rintro e wx ⟨rfl, rfl⟩)
              go_loopw [17, 18] (fun h i wr => ∃ j q : Nat, j ≤ l.length ∧ h = .bool (heldK l names bs nm j) ∧ i = .int .i64 j ∧ wr = w8.drewN q) (fun _ i _ => l.length - (intOf i).toNat)
              case atStart => exact ⟨0, q, by omega, by rw [HZ.out], rfl, rfl⟩
              case round =>
                obtain ⟨j, q, hj, rfl, rfl, rfl⟩ := hrel
                by_cases hlj : j < l.length
                · have z0 := (hb08.cell (p := ⟨b, o + j * 3, none⟩) hbl).trans (HC.out.c0 j hlj)
                  have z1 := (hb08.cell (p := ⟨b, o + j * 3 + 1, none⟩) hbl).trans (HC.out.c1 j hlj)
                  have ha := fun q => HAA.out l[j].name q
                  have hh := fun q => HAH.out j hlj nm q
                  have hsu := heldK_succ (names := names) (a := bs) (s := nm) hlj
                  obtain ⟨sj, hsj⟩ : ∃ s, l[j].name = s := ⟨_, rfl⟩
                  obtain ⟨ra, hra⟩ : ∃ s, l[j].ha = s := ⟨_, rfl⟩
                  obtain ⟨rn, hrn⟩ : ∃ s, l[j].holds.length = s := ⟨_, rfl⟩
                  obtain ⟨rc, hrc⟩ : ∃ s, l[j].hc = s := ⟨_, rfl⟩
                  obtain ⟨b1, hb1⟩ : ∃ s, hasB bs l[j].name = s := ⟨_, rfl⟩
                  obtain ⟨b2, hb2⟩ : ∃ s, hasB l[j].holds nm = s := ⟨_, rfl⟩
                  rw [hb1] at ha hsu
                  rw [hb2] at hh hsu
                  rw [hsj] at z0 ha
                  simp only [Rl.hv, hra, hrn, hrc] at z1 hh
                  have KA2 := Lib.hid ha; have KH2 := Lib.hid hh; have HSU := Lib.hid hsu
                  clear ha hh hsu hsj hra hrn hrc hb1 hb2
                  cases hd : heldK l names bs nm j with
                  | true =>
                    rw [hd] at HSU
                    have HN2 : Hid (heldK l names bs nm (j + 1) = true) := HSU.out
                    clear hd HSU
                    go_wp2
                    go_quiet (fail)
                    go_wp2
                    go_roundw
                    case rel => exact ⟨j + 1, _, by omega, by rw [HN2.out], by go_num, rfl⟩
                    case measure => simp [intOf]; omega
                  | false =>
                    rw [hd] at HSU
                    cases b1 with
                    | false =>
                      have HN2 : Hid (heldK l names bs nm (j + 1) = false) := HSU.out
                      clear hd HSU
                      go_wp2
                      go_quiet ((go_at_call 15; exact q_same (KA2.out _)))
                      go_wp2
                      go_roundw
                      case rel => exact ⟨j + 1, _, by omega, by rw [HN2.out], by go_num, rfl⟩
                      case measure => simp [intOf]; omega
                    | true =>
                      have HN2 : Hid (heldK l names bs nm (j + 1) = b2) := HSU.out
                      clear hd HSU
                      go_wp2
                      go_quiet ((go_at_call 15; first | with_reducible exact q_same (KA2.out _) | exact q_same (KH2.out _)))
                      go_wp2
                      go_roundw
                      case rel => exact ⟨j + 1, _, by omega, by rw [HN2.out], by go_num, rfl⟩
                      case measure => simp [intOf]; omega
                · obtain rfl : j = l.length := by omega
                  have hend := HEn.out (by first | trivial | rfl)
                  rw [hend]
                  clear HAN HAA HAH HC HC5 hend
                  go_wp2_with (go_at_call 15; refine (KA.out _).mono ?_; rintro e wx ⟨rfl, rfl⟩)
                  go_roundw
                  case rel => exact ⟨k + 1, q, by omega, by go_num, rfl⟩
                  case measure => simp [intOf]; omega
          · clear HAN HAA HAH HC HC5
            have HBE := Lib.hid (below_drewN hb08 q)
            go_wp2
            go_ret
            exact ⟨rfl, HBE.out⟩
  · obtain rfl : ns = [] := HC5.out.1 (by rw [HE1.out]; exact hk)
    go_wp2_with fail
    refine cB5.mono ?_
    rintro e w6 ⟨va6, vc6, ms, rfl, hO6, hC6, hb6⟩
    obtain rfl : ms = [] := hC6.1 (by rw [HE2.out]; exact hk)
    have hb06 : Below w.heap.size w w6 := hb05.trans (hb6.mono hb05.size)
    have hx : (chkP l != 0) = true := by simpa using hk
    clear hO6 hC6 hb6 HE1 HE2 HC5 HS5 cA hk
    generalize chkP l = x at *
    go_wp2
    go_ret
    exact ⟨rfl, hb06⟩
end Go.Proofs.YtkiepajhakoeiaaDoor
