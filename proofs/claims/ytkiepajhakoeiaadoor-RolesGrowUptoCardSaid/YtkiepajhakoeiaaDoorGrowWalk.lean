/- docketlaw20.RolesGrow: its walk. -/
import Derived.Test.YtkiepajhakoeiaaDoorOwnStrs
import Derived.Test.YtkiepajhakoeiaaDoorLaw20
import Derived.Test.YtkiepajhakoeiaaDoorAlive
namespace Go.Proofs.YtkiepajhakoeiaaDoor
open Go.RowKit

set_option maxHeartbeats 2500000 in
set_option maxRecDepth 100000 in
theorem rolesGrow_walk (v vn vm : Value) (l : List Rl) (names more : List ByteArray) (deed : ByteArray) (w : World) (h : Rls w.heap.size w v l) (hl : l.length ≤ maxLen) (hn : Strs w.heap.size w vn names) (hnl : names.length ≤ maxLen) (hns : ∀ s ∈ names, s.size ≤ maxLen)
    (hm : Strs w.heap.size w vm more) (hml : more.length ≤ maxLen) (hms : ∀ s ∈ more, s.size ≤ maxLen) (hd : deed.size ≤ maxLen) :
    Calls Tryd.prog 6 #[v, vn, vm, .string deed] w fun e w' => e = .returned (.bool true) ∧ Below w.heap.size w w' := by
  have cG := fun W (hb : Below w.heap.size w W) => law_great v vn l names W w.heap.size (h.below hb) (hn.below hb) hl hnl
  have cH := fun W (hb : Below w.heap.size w W) => law_great v vm l more W w.heap.size (h.below hb) (hm.below hb) hl hml
  have cC := fun W (hb : Below w.heap.size w W) => roles_Closed v vn l names W ((h.below hb).mono hb.size) hl ((hn.below hb).mono hb.size) hnl hns
  have cM := fun W (hb : Below w.heap.size w W) => roles_May v vn l names deed W ((h.below hb).mono hb.size) hl ((hn.below hb).mono hb.size) hnl hns hd
  have cB := fun x W (hb : Below w.heap.size w W) (hx : Strs W.heap.size W x (names ++ more)) (hxl : (names ++ more).length ≤ maxLen) => roles_May v x l (names ++ more) deed W ((h.below hb).mono hb.size) hl hx hxl (by
    intro s hs
    rcases List.mem_append.1 hs with hs | hs
    · exact hns s hs
    · exact hms s hs) hd
  have H := Lib.hid h; have HN := Lib.hid hn; have HM := Lib.hid hm
  have HNM : Hid (∀ r ∈ l, r.name.size ≤ maxLen) := fun r hr => by
    obtain ⟨_, _, _, _, _, _, hC⟩ := h.cells
    obtain ⟨j, hj, rfl⟩ := List.mem_iff_getElem.1 hr
    exact (hC.ok j hj).name
  obtain ⟨a, c, b, o, rfl, -, hC⟩ := h.cells
  have HC := Lib.hid hC
  obtain ⟨an, cn, bn, on, rfl, hlen, -, -⟩ := hn.cells
  obtain ⟨am, cm, bm, om, rfl, hlem, -, -⟩ := hm.cells
  clear h hn hm hns hms hC
  unfold maxLen at hl hnl hml
  go_enter Tryd.func6, Tryd.ntmps6
  go_wp2_with fail
  refine (law_alive _).mono ?_
  rintro e w1 ⟨rfl, hb1⟩
  go_wp2_with fail
  refine (cG _ hb1).mono ?_
  rintro e w2 ⟨bo, rfl, ⟨q, rfl⟩, hbo⟩
  cases bo with
  | true =>
    go_wp2
    go_ret
    exact ⟨rfl, below_drewN hb1 q⟩
  | false =>
  obtain ⟨hl40, hn11⟩ := hbo rfl
  go_wp2_with fail
  refine (cH _ (below_drewN hb1 q)).mono ?_
  rintro e w2 ⟨bo, rfl, ⟨q', rfl⟩, hbo⟩
  rw [World.drewN_drewN] at *
  cases bo with
  | true =>
    go_wp2
    go_ret
    exact ⟨rfl, below_drewN hb1 _⟩
  | false =>
  obtain ⟨-, hm11⟩ := hbo rfl
  clear hbo cG cH
  by_cases h24 : 1024 < names.length + more.length
  · have g : decide (1024 < (names.length : Int) + (more.length : Int)) = true := decide_eq_true (by omega)
    go_wp2
    go_ret
    exact ⟨rfl, below_drewN hb1 _⟩
  have g : decide (1024 < (names.length : Int) + (more.length : Int)) = false := decide_eq_false (by omega)
  have hb2 := below_drewN hb1 (q + q')
  generalize hw2 : w1.drewN (q + q') = w2 at *
  clear hw2
  obtain ⟨va3, vc3, w3, hap3, hO3, hg3⟩ := Own.appStrs (B := w.heap.size) (xs := []) (Own.nilStrs w2 w2.heap.size) (Nat.le_refl _) (HN.out.below hb2) (by show 0 + names.length ≤ 1000000; omega)
  have hb3 : Below w.heap.size w w3 := (Own.nil w2 w2.heap.size 9 1).belowGrown hb2 hb2.size hb2.size hg3
  have hs3 := hg3.size
  obtain ⟨va4, vc4, w4, hap4, hO4, hg4⟩ := Own.appStrs (B := w.heap.size) hO3 hs3 (HM.out.below hb3) (by show _ + more.length ≤ 1000000; omega)
  have hb4 : Below w.heap.size w w4 := hO3.belowGrown hb3 hb2.size hb3.size hg4
  simp only [List.nil_append, Nat.zero_add] at hap3 hap4 hO3 hO4
  have HAP3 := Lib.hid hap3; have HAP4 := Lib.hid hap4
  have HO4 := Lib.hid hO4
  have hvc3 := hO3.cap.1
  have hvc4 := hO4.cap.1
  clear hap3 hap4 hO3 hg3 hO4 hg4
  go_wp2_with (first | (at_builtin; refine wpList_append_run rfl _ _ _ rfl rfl rfl HAP3.out ?_; clear HAP3) | (at_builtin; refine wpList_append_run rfl _ _ _ rfl rfl rfl HAP4.out ?_))
  have he2 : mayE l (names ++ more) deed = mayE l names deed := mayE_few (by omega) (by rw [List.length_append]; omega)
  have hgr : ∀ b c, MayIs l names deed b → MayIs l (names ++ more) deed c → mayE l names deed = 0 → b = true → c = true := fun b c h h' he hb => mayIs_grow h h' (he2.trans he) (fun n hn => List.mem_append.2 (.inl hn)) hb
  have HGR := Lib.hid hgr
  have hno : ∀ c, MayIs l (names ++ more) deed c → mayE l names deed ≠ 0 → c = false := fun c h h' => mayIs_no h (by rw [he2]; exact h')
  have HNO := Lib.hid hno
  clear hgr hno
  refine (cM _ hb4).mono ?_
  rintro e w5 ⟨bo5, rfl, hM5, hb5⟩
  have hO4 := HO4.out.below hb5 (Nat.le_refl _)
  have hb05 : Below w.heap.size w w5 := hb4.trans (hb5.mono hb4.size)
  have hS5 : Strs w5.heap.size w5 (.slice va4 (names.length + more.length) vc4) (names ++ more) := by
    have := own_strs (xs := names ++ more) (vc := vc4) (va := va4) (B := w5.heap.size) (by rw [List.length_append]; exact hO4) (Nat.le_refl _)
    rw [List.length_append] at this; exact this
  have cB5 := cB _ _ hb05 hS5 (by rw [List.length_append]; unfold maxLen; omega)
  rw [he2] at cB5
  have HM5 := Lib.hid hM5
  clear hO4 hS5 hM5 HO4 cB HAP4 hb4 hb5 hb1 hb2 hb3 hvc3 hvc4 he2 hs3 g hlen hlem cM
  go_wp2_with fail
  refine cB5.mono ?_
  rintro e w6 ⟨bo6, rfl, hM6, hb6⟩
  have hb06 : Below w.heap.size w w6 := hb05.trans (hb6.mono hb05.size)
  have cC6 := cC _ hb06
  have HM6 := Lib.hid hM6
  clear cC cB5 hM6 hb6 hb05
  by_cases hx : mayE l names deed = 0
  · have HG6 : Hid (bo5 = true → bo6 = true) := HGR.out _ _ HM5.out HM6.out hx
    have hk : closedE l names = 0 := mayE_closed hx
    have HK := Lib.hid hk
    have HX := Lib.hid hx
    rw [hk] at cC6
    generalize mayE l names deed = x at hx ⊢
    clear hk
    subst hx
    go_wp2_with fail
    refine cC6.mono ?_
    rintro e w7 ⟨va7, vc7, ns, rfl, hO7, hC7, hb7⟩
    have hb07 : Below w.heap.size w w7 := hb06.trans (hb7.mono hb06.size)
    have hlen7 : ns.length ≤ 32 := closed_len hC7
    have HS7 := Lib.hid (own_strs hO7 (Nat.le_refl w7.heap.size))
    have HHas : Hid (bo5 = l.any fun r => hasB ns r.name && hasB r.may deed) := mayIs_has HM5.out hC7 HX.out
    have HAA : Hid (∀ s q, Calls Tryd.prog 15 #[.slice va7 ns.length vc7, .string s] (w7.drewN q) fun e w' => e = .returned (.bool (hasB ns s)) ∧ w' = w7.drewN q) := fun s q => law_among _ _ _ _ _ (Strs.below HS7.out (below_drewN (Below.refl _ _) q)) (by unfold maxLen; omega)
    have HAH : Hid (∀ j (hj : j < l.length) s q, Calls Tryd.prog 15 #[l[j].mv, .string s] (w7.drewN q) fun e w' => e = .returned (.bool (hasB l[j].may s)) ∧ w' = w7.drewN q) := fun j hj s q => law_among _ _ _ _ _ ((HC.out.ms j hj).below (below_drewN hb07 q)) (HC.out.ok j hj).ml
    clear hO7 hC7 hb7 hb06 cC6 HS7 HM5 HM6 HGR HNO
    go_wp2
    go_loopw [17, 18] (fun h i wr => ∃ j q : Nat, j ≤ l.length ∧ h = .bool ((l.take j).any fun r => hasB ns r.name && hasB r.may deed) ∧ i = .int .i64 j ∧ wr = w7.drewN q) (fun _ i _ => l.length - (intOf i).toNat)
    case atStart => exact ⟨0, 0, by omega, by simp, rfl, rfl⟩
    case round =>
      obtain ⟨j, q, hj, rfl, rfl, rfl⟩ := hrel
      by_cases hlj : j < l.length
      · obtain ⟨rfl, hbl⟩ := HC.out.at0 (by omega)
        have z0 := (hb07.cell (p := ⟨b, o + j * 3, none⟩) hbl).trans (HC.out.c0 j hlj)
        have z1 := (hb07.cell (p := ⟨b, o + j * 3 + 2, none⟩) hbl).trans (HC.out.c2 j hlj)
        have ha := fun q => HAA.out l[j].name q
        have hh := fun q => HAH.out j hlj deed q
        have hsu := any_snoc (p := fun r : Rl => hasB ns r.name && hasB r.may deed) hlj
        obtain ⟨sj, hsj⟩ : ∃ s, l[j].name = s := ⟨_, rfl⟩
        obtain ⟨ra, hra⟩ : ∃ s, l[j].ma = s := ⟨_, rfl⟩
        obtain ⟨rn, hrn⟩ : ∃ s, l[j].may.length = s := ⟨_, rfl⟩
        obtain ⟨rc, hrc⟩ : ∃ s, l[j].mc = s := ⟨_, rfl⟩
        obtain ⟨b1, hb1⟩ : ∃ s, hasB ns l[j].name = s := ⟨_, rfl⟩
        obtain ⟨b2, hb2⟩ : ∃ s, hasB l[j].may deed = s := ⟨_, rfl⟩
        rw [hb1] at ha hsu
        rw [hb2] at hh hsu
        rw [hsj] at z0 ha
        simp only [Rl.mv, hra, hrn, hrc] at z1 hh
        have KA2 := Lib.hid ha; have KH2 := Lib.hid hh; have HSU := Lib.hid hsu
        clear ha hh hsu hsj hra hrn hrc hb1 hb2
        obtain ⟨hv, hd⟩ : ∃ x, ((l.take j).any fun r => hasB ns r.name && hasB r.may deed) = x := ⟨_, rfl⟩
        rw [hd] at HSU ⊢
        clear hd
        cases hv with
        | true =>
          go_wp2
          go_roundw
          case rel => exact ⟨j + 1, _, by omega, by rw [HSU.out]; rfl, by go_num, rfl⟩
          case measure => simp [intOf]; omega
        | false =>
          cases b1 with
          | false =>
            go_wp2_with (go_at_call 15; refine (KA2.out _).mono ?_; rintro e wx ⟨rfl, rfl⟩)
            go_roundw
            case rel => exact ⟨j + 1, _, by omega, by rw [HSU.out]; rfl, by go_num, rfl⟩
            case measure => simp [intOf]; omega
          | true =>
            go_wp2_with (go_at_call 15; (first | with_reducible refine (KA2.out _).mono ?_ | with_reducible refine (KH2.out _).mono ?_); rintro e wx ⟨rfl, rfl⟩)
            go_roundw
            case rel => exact ⟨j + 1, _, by omega, by rw [HSU.out]; rfl, by go_num, rfl⟩
            case measure => simp [intOf]; omega
      · have hend := any_end (p := fun r : Rl => hasB ns r.name && hasB r.may deed) (l := l) (k := j) (by omega)
        rw [hend, ← HHas.out]
        have hBE := Lib.hid (below_drewN hb07 q)
        clear hend HAA HAH HHas
        cases bo5 with
        | false =>
          clear HG6
          go_wp2
          go_ret
          exact ⟨rfl, hBE.out⟩
        | true =>
          obtain rfl : bo6 = true := HG6.out (by first | trivial | rfl)
          go_wp2
          go_ret
          exact ⟨rfl, hBE.out⟩
  · obtain rfl := mayIs_no HM5.out hx
    obtain rfl := HNO.out _ HM6.out hx
    have hx2 : (mayE l names deed != 0) = true := by simpa using hx
    clear HM5 HM6 HGR HNO hx
    generalize mayE l names deed = x at *
    generalize closedE l names = y at *
    go_wp2_with fail
    refine cC6.mono ?_
    rintro e w7 ⟨va7, vc7, ns, rfl, -, -, hb7⟩
    have hb07 : Below w.heap.size w w7 := hb06.trans (hb7.mono hb06.size)
    go_wp2
    go_ret
    exact ⟨rfl, hb07⟩
end Go.Proofs.YtkiepajhakoeiaaDoor
