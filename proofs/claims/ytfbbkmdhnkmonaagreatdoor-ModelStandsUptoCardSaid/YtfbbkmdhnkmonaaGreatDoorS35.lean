/- docketlaw18: ModelStands, walked. -/
import Derived.Test.YtfbbkmdhnkmonaaGreatDoorS34
namespace Go.Proofs.YtfbbkmdhnkmonaaGreatDoor
open Go.RowKit

/-- among the ordered: what leans stands behind -/
theorem ord_lt {md : ModelD} {i k : Nat} (hi : i < (orderL md).length) (hk : k < (orderL md).length) (h : leansB md (orderL md)[i] (orderL md)[k] = true) : k < i := by
  obtain ⟨rest, ho⟩ := orderL_is md
  exact ho.lean_lt (placesL_nodup md) hi hk h
theorem ord_ne {md : ModelD} {i k : Nat} (hi : i < (orderL md).length) (hk : k < (orderL md).length) (h : k ≠ i) : (orderL md)[k] ≠ (orderL md)[i] := fun e => by
  obtain ⟨rest, ho⟩ := orderL_is md
  exact h ((List.getElem_inj (ho.nodup (placesL_nodup md))).1 e)
theorem ord_mem {md : ModelD} {i : Nat} (hi : i < (orderL md).length) : (orderL md)[i] ∈ placesL md := by
  obtain ⟨rest, ho⟩ := orderL_is md
  exact ho.mem (List.getElem_mem hi)
theorem ord_least {md : ModelD} {i k free : Nat} (hi : i < (orderL md).length) (hki : k < i) (hf : free ≤ k) (hfree : ∀ j (hj : j < (orderL md).length), leansB md (orderL md)[i] (orderL md)[j] = true → j < free) : ¬ plLt (orderL md)[i] ((orderL md)[k]'(by omega)) := by
  obtain ⟨rest, ho⟩ := orderL_is md
  exact ho.least_of (placesL_sorted md) (fun a b h => plLt_asymm h) hi hki hf hfree
theorem leansA_in {md : ModelD} (h0 : checkE md = 0) {i k : Nat} (hi : i < (orderL md).length) (hk : k < (orderL md).length) : leansA md (orderL md)[i] (orderL md)[k] = (leansB md (orderL md)[i] (orderL md)[k], 0) := by
  rw [leansA, if_pos h0, if_pos ⟨ord_mem hi, ord_mem hk⟩]
set_option maxHeartbeats 32000000 in
set_option maxRecDepth 100000 in
theorem stands_walk (md : ModelD) (v : ModelV) (w : World) (hz : md.Sml) (ht : md.Txt) (hM : ModelM false (From 0) w md v) (hv : GRng w) :
    Calls Tryz.prog 5 #[.agg (v.cs md).toArray] w (fun e w' => e = .returned (.bool true) ∧ Below w.heap.size w w') := by
  obtain ⟨w1, hw1⟩ : ∃ w1, w.alloc (.cells (v.cs md).toArray 31) = w1 := ⟨_, rfl⟩
  have hb1 : Below w.heap.size w w1 := hw1 ▸ (Below.refl _ _).alloc (Nat.le_refl _) _
  have hx1 : Arr w1 w.heap.size 31 (v.cs md) := hw1 ▸ Arr.new w (v.cs md) _
  have HM := Lib.hid (fun W (hb : Below w1.heap.size w1 W) => hM.grow (hb1.trans (hb.mono hb1.size)))
  have HV := Lib.hid (fun W (hb : Below w1.heap.size w1 W) => hv.below (hb1.trans (hb.mono hb1.size)))
  have HX := Lib.hid hx1
  have HB1 := Lib.hid hb1
  have HW1 := Lib.hid hw1
  have HZ := Lib.hid hz
  have HT := Lib.hid ht
  have HA := Lib.hid (alive_walk w1 (hv.below hb1))
  obtain ⟨q, hq⟩ : ∃ q, checkE md = q := ⟨_, rfl⟩
  have HQ := Lib.hid hq
  obtain ⟨va1, vc1, va2, vc2, va3, vc3, va4, vc4, va5, vc5⟩ := v
  clear hM hv hb1 hx1 hw1 hz ht hq
  go_enter Tryz.func5, Tryz.ntmps5
  go_upto_region 1 with fail
  rw [HW1.out]
  go_wp2_with fail
  refine HA.out.mono ?_
  rintro e w2 ⟨rfl, hb2⟩
  have HB2 := Lib.hid hb2
  clear hb2 HA
  obtain ⟨y0, y1, y2, y3, y4, y5⟩ := box6 HX.out HB2.out
  have HG := Lib.hid (great_walk md ⟨va1, vc1, va2, vc2, va3, vc3, va4, vc4, va5, vc5⟩ w2 HZ.out (HM.out w2 HB2.out))
  go_wp2_with fail
  refine HG.out.mono ?_
  rintro e w3 ⟨⟨r, rfl⟩, hb3⟩
  have HB3 := Lib.hid (HB2.out.trans (hb3.mono HB2.out.size))
  clear hb3 HG y0 y1 y2 y3 y4 y5
  obtain ⟨y0, y1, y2, y3, y4, y5⟩ := box6 HX.out HB3.out
  cases r with
  | true =>
    have HE := Lib.hid (HB1.out.trans (HB3.out.mono HB1.out.size))
    go_wp2_with fail
    go_ret
    exact ⟨rfl, HE.out⟩
  | false =>
    have HN := Lib.hid (many_walk md ⟨va1, vc1, va2, vc2, va3, vc3, va4, vc4, va5, vc5⟩ w3 HZ.out (HM.out w3 HB3.out))
    go_wp2_with fail
    refine HN.out.mono ?_
    rintro e w4 ⟨rfl, hb4⟩
    have HB4 := Lib.hid (HB3.out.trans (hb4.mono HB3.out.size))
    clear hb4 HN y0 y1 y2 y3 y4 y5
    obtain ⟨y0, y1, y2, y3, y4, y5⟩ := box6 HX.out HB4.out
    by_cases h24 : 24 < manyN md
    · have j1 : (24 : Int) < (manyN md : Int) := by omega
      have HE := Lib.hid (HB1.out.trans (HB4.out.mono HB1.out.size))
      go_wp2_with fail
      go_ret
      exact ⟨rfl, HE.out⟩
    · have j1 : ¬ (24 : Int) < (manyN md : Int) := by omega
      have HO := Lib.hid (order_walk md ⟨va1, vc1, va2, vc2, va3, vc3, va4, vc4, va5, vc5⟩ w4 HZ.out HT.out (HM.out w4 HB4.out) (HV.out w4 HB4.out))
      go_wp2_with fail
      refine HO.out.mono ?_
      rintro e w5 ⟨hb5, oa, oc, rfl, hmo⟩
      have HB5 := Lib.hid (HB4.out.trans (hb5.mono HB4.out.size))
      rw [HQ.out]
      clear hb5 HO y0 y1 y2 y3 y4 y5
      obtain ⟨y0, y1, y2, y3, y4, y5⟩ := box6 HX.out HB5.out
      have HC := Lib.hid (fun W (hb : Below w1.heap.size w1 W) => check_walk md ⟨va1, vc1, va2, vc2, va3, vc3, va4, vc4, va5, vc5⟩ W HZ.out HT.out (HM.out W hb) (HV.out W hb))
      simp only [HQ.out] at HC
      by_cases h0 : q = 0
--REST
      · subst h0
        have HOA : Hid (ordA md = orderL md) := by show _ = _; rw [ordA, if_pos HQ.out]
        rw [HOA.out] at hmo
        rw [HOA.out]
        have HCZ := Lib.hid (check_zero HQ.out)
        obtain ⟨P, hP⟩ : ∃ P : Nat → Pl, ∀ j (hj : j < (orderL md).length), (orderL md)[j] = P j := ⟨fun j => ((orderL md)[j]?).getD (0, 0, 0), fun j hj => by simp [List.getElem?_eq_getElem hj]⟩
        have HLT : Hid (∀ i k, i < (orderL md).length → k < (orderL md).length → leansB md (P i) (P k) = true → k < i) := fun i k hi hk h => ord_lt hi hk (by rw [hP, hP]; exact h)
        have HNE : Hid (∀ i k, i < (orderL md).length → k < (orderL md).length → k ≠ i → P k ≠ P i) := fun i k hi hk h => by rw [← hP _ hi, ← hP _ hk]; exact ord_ne hi hk h
        have HLA : Hid (∀ i k, i < (orderL md).length → k < (orderL md).length → leansA md (P i) (P k) = (leansB md (P i) (P k), 0)) := fun i k hi hk => by rw [← hP _ hi, ← hP _ hk]; exact leansA_in HQ.out hi hk
        have HLS : Hid (∀ i k free : Nat, i < (orderL md).length → k < i → free ≤ k → (∀ j, j < (orderL md).length → leansB md (P i) (P j) = true → j < free) → ¬ plLt (P i) (P k)) := fun i k free hi hk hf h => by
          rw [← hP _ hi, ← hP k (by omega)]
          exact ord_least hi hk hf fun j hj hl => h j hj (by rw [← hP _ hi, ← hP _ hj]; exact hl)
        obtain ⟨_, _, b, off, hvv, -, hC⟩ := flat_open hmo
        injection hvv with e1 e2 e3
        subst e1 e3
        have HC0 : Hid (0 < (orderL md).length → oa = some ⟨b, off, none⟩) := fun h => (hC.at0 h).1
        have HPC : Hid (∀ W, Below w5.heap.size w5 W → ∀ j, j < (orderL md).length → W.cell? ⟨b, off + j * 3, none⟩ = some (.int .i64 (P j).1) ∧ W.cell? ⟨b, off + j * 3 + 1, none⟩ = some (.int .i64 (P j).2.1) ∧ W.cell? ⟨b, off + j * 3 + 2, none⟩ = some (.int .i64 (P j).2.2)) := fun W hb j hj =>
          ⟨(hC.grow hb).cell j hj 0 _ (by rw [hP _ hj]; rfl), (hC.grow hb).cell j hj 1 _ (by rw [hP _ hj]; rfl), (hC.grow hb).cell j hj 2 _ (by rw [hP _ hj]; rfl)⟩
        have HMN : Hid (manyN md = (orderL md).length) := by show _ = _; rw [HCZ.out.2.2.2, length_placesL]
        obtain ⟨n, hn⟩ : ∃ n, (orderL md).length = n := ⟨_, rfl⟩
        simp only [hn] at HLT HNE HLA HLS HC0 HPC HMN ⊢
        have hn24 : n ≤ 24 := by have := HMN.out; omega
        have HMY := Lib.hid (many_walk md ⟨va1, vc1, va2, vc2, va3, vc3, va4, vc4, va5, vc5⟩ w5 HZ.out (HM.out w5 HB5.out))
        rw [HMN.out] at HMY
        have HSM : Hid (∀ W, Below w5.heap.size w5 W → W.cell? ⟨w.heap.size, 0, none⟩ = some (.string md.name) ∧ W.cell? ⟨w.heap.size, 1, none⟩ = some (.slice va1 md.attrs.length vc1) ∧ W.cell? ⟨w.heap.size, 2, none⟩ = some (.slice va2 md.events.length vc2) ∧ W.cell? ⟨w.heap.size, 3, none⟩ = some (.slice va3 md.stages.length vc3) ∧ W.cell? ⟨w.heap.size, 4, none⟩ = some (.slice va4 md.stones.length vc4) ∧ W.cell? ⟨w.heap.size, 5, none⟩ = some (.slice va5 md.apart.length vc5)) := fun W hb => box6 HX.out (HB5.out.trans (hb.mono HB5.out.size))
        have e0 : ((n : Int) != (n : Int)) = false := by simp
        clear hmo hC e2 hP hn h24 j1
        go_wp2_with fail
        refine HMY.out.mono ?_
        rintro e w6 ⟨rfl, hb6⟩
        have HB6 := Lib.hid hb6
        clear hb6 HMY y0 y1 y2 y3 y4 y5
        obtain ⟨y0, y1, y2, y3, y4, y5⟩ := HSM.out w6 HB6.out
        have HC6 := Lib.hid (HC.out w6 (HB5.out.trans (HB6.out.mono HB5.out.size)))
        go_wp2_with fail
        refine HC6.out.mono ?_
        rintro e w7 ⟨rfl, hb7⟩
        have HB7 := Lib.hid (HB6.out.trans (hb7.mono HB6.out.size))
        clear hb7 HC6 HC y0 y1 y2 y3 y4 y5 e0
        go_wp2_with fail
        go_loopw [6] (fun i wr => ∃ m : Nat, m ≤ n ∧ i = .int .i64 (m : Int) ∧ Hid (Below w5.heap.size w5 wr)) (fun i _ => n - (intOf i).toNat)
        case atStart => exact ⟨0, Nat.zero_le _, rfl, HB7.out⟩
        case round =>
          obtain ⟨m, hml, rfl, HB⟩ := hrel
          by_cases hlt : m < n
          · have i1 : (m : Int) < (n : Int) := by omega
            have i2 : (0 : Int) ≤ (m : Int) := by omega
            have HML := Lib.hid hlt
            obtain rfl : oa = some ⟨b, off, none⟩ := HC0.out (by omega)
            obtain ⟨wo, rfl⟩ : ∃ wo, wo = wr := ⟨_, rfl⟩
            obtain ⟨a0, a1, a2, ha⟩ : ∃ a0 a1 a2, P m = (a0, a1, a2) := ⟨_, _, _, rfl⟩
            have k1 : IntKind.i64.wrap ((m : Int) + 1) = (m : Int) + 1 := wrap_i64 (by omega) (by omega)
            have HAM := Lib.hid ha
            clear ha
            go_wp2_with fail
            go_loopw [7, 8] (fun f k wr => ∃ c fr : Nat, c ≤ n ∧ f = .int .i64 (fr : Int) ∧ k = .int .i64 (c : Int) ∧ Hid (fr ≤ c ∧ ∀ j, j < c → leansB md (P m) (P j) = true → j < fr) ∧ Hid (Below w5.heap.size w5 wr)) (fun _ k _ => n - (intOf k).toNat)
            case atStart => exact ⟨0, 0, Nat.zero_le _, rfl, rfl, ⟨Nat.le_refl _, fun j hj => absurd hj (Nat.not_lt_zero _)⟩, HB.out⟩
            case round =>
              obtain ⟨c, fr, hcl, rfl, rfl, HF, HBk⟩ := hrel
              by_cases hcn : c < n
              · have i3 : (c : Int) < (n : Int) := by omega
                have i4 : (0 : Int) ≤ (c : Int) := by omega
                have HCN := Lib.hid hcn
                have k3 : IntKind.i64.wrap ((c : Int) + 1) = (c : Int) + 1 := wrap_i64 (by omega) (by omega)
                obtain ⟨c0, c1, c2, hc⟩ : ∃ c0 c1 c2, P c = (c0, c1, c2) := ⟨_, _, _, rfl⟩
                obtain ⟨r, hr⟩ : ∃ r, leansB md (P m) (P c) = r := ⟨_, rfl⟩
                have hla := HLA.out m c hlt hcn
                rw [hr] at hla
                have HLW : Hid (∀ W, Below w5.heap.size w5 W → Calls Tryz.prog 6 #[.agg (ModelV.cs ⟨va1, vc1, va2, vc2, va3, vc3, va4, vc4, va5, vc5⟩ md).toArray, .agg #[.int .i64 a0, .int .i64 a1, .int .i64 a2], .agg #[.int .i64 c0, .int .i64 c1, .int .i64 c2]] W (fun e w' => e = .returned (.tuple #[.bool r, .int .i64 0]) ∧ Below W.heap.size W w')) := fun W hb => by
                  have h := leansX_walk md ⟨va1, vc1, va2, vc2, va3, vc3, va4, vc4, va5, vc5⟩ (P m) (P c) W HZ.out HT.out (HM.out W (HB5.out.trans (hb.mono HB5.out.size))) (HV.out W (HB5.out.trans (hb.mono HB5.out.size)))
                  rw [hla, HAM.out, hc] at h
                  exact h
                have HPW : Hid (∀ W', Below w5.heap.size w5 W' → ((W'.cell? ⟨b, off + m * 3, none⟩ = some (.int .i64 a0) ∧ W'.cell? ⟨b, off + m * 3 + 1, none⟩ = some (.int .i64 a1) ∧ W'.cell? ⟨b, off + m * 3 + 2, none⟩ = some (.int .i64 a2)) ∧ (W'.cell? ⟨b, off + c * 3, none⟩ = some (.int .i64 c0) ∧ W'.cell? ⟨b, off + c * 3 + 1, none⟩ = some (.int .i64 c1) ∧ W'.cell? ⟨b, off + c * 3 + 2, none⟩ = some (.int .i64 c2)))) := fun W' hb => by
                  have p1 := HPC.out W' hb m hlt
                  have p2 := HPC.out W' hb c hcn
                  rw [HAM.out] at p1
                  rw [hc] at p2
                  exact ⟨p1, p2⟩
                obtain ⟨wi, rfl⟩ : ∃ wi, wi = wr := ⟨_, rfl⟩
                have HSX : Hid (∀ W', Below wi.heap.size wi W' → (Below wi.heap.size wi W' ∧ W'.cell? ⟨w.heap.size, 0, none⟩ = some (.string md.name) ∧ W'.cell? ⟨w.heap.size, 1, none⟩ = some (.slice va1 md.attrs.length vc1) ∧ W'.cell? ⟨w.heap.size, 2, none⟩ = some (.slice va2 md.events.length vc2) ∧ W'.cell? ⟨w.heap.size, 3, none⟩ = some (.slice va3 md.stages.length vc3) ∧ W'.cell? ⟨w.heap.size, 4, none⟩ = some (.slice va4 md.stones.length vc4) ∧ W'.cell? ⟨w.heap.size, 5, none⟩ = some (.slice va5 md.apart.length vc5) ∧ W'.cell? ⟨b, off + m * 3, none⟩ = some (.int .i64 a0) ∧ W'.cell? ⟨b, off + m * 3 + 1, none⟩ = some (.int .i64 a1) ∧ W'.cell? ⟨b, off + m * 3 + 2, none⟩ = some (.int .i64 a2) ∧ W'.cell? ⟨b, off + c * 3, none⟩ = some (.int .i64 c0) ∧ W'.cell? ⟨b, off + c * 3 + 1, none⟩ = some (.int .i64 c1) ∧ W'.cell? ⟨b, off + c * 3 + 2, none⟩ = some (.int .i64 c2))) := fun W' hb => by
                  have hb5 := HBk.out.trans (hb.mono HBk.out.size)
                  obtain ⟨q0, q1, q2, q3, q4, q5⟩ := HSM.out W' hb5
                  obtain ⟨⟨p0, p1, p2⟩, p3, p4, p5⟩ := HPW.out W' hb5
                  exact ⟨hb, q0, q1, q2, q3, q4, q5, p0, p1, p2, p3, p4, p5⟩
                have hq0 := (Below.refl wi.heap.size wi).drew
                have HRR := Lib.hid hr
                have HPCc := Lib.hid hc
                clear hla hr hc
                go_upto_region 16 with fail
                go_region_held3 (fun W' => Below wi.heap.size wi W' ∧ W'.cell? ⟨w.heap.size, 0, none⟩ = some (.string md.name) ∧ W'.cell? ⟨w.heap.size, 1, none⟩ = some (.slice va1 md.attrs.length vc1) ∧ W'.cell? ⟨w.heap.size, 2, none⟩ = some (.slice va2 md.events.length vc2) ∧ W'.cell? ⟨w.heap.size, 3, none⟩ = some (.slice va3 md.stages.length vc3) ∧ W'.cell? ⟨w.heap.size, 4, none⟩ = some (.slice va4 md.stones.length vc4) ∧ W'.cell? ⟨w.heap.size, 5, none⟩ = some (.slice va5 md.apart.length vc5) ∧ W'.cell? ⟨b, off + m * 3, none⟩ = some (.int .i64 a0) ∧ W'.cell? ⟨b, off + m * 3 + 1, none⟩ = some (.int .i64 a1) ∧ W'.cell? ⟨b, off + m * 3 + 2, none⟩ = some (.int .i64 a2) ∧ W'.cell? ⟨b, off + c * 3, none⟩ = some (.int .i64 c0) ∧ W'.cell? ⟨b, off + c * 3 + 1, none⟩ = some (.int .i64 c1) ∧ W'.cell? ⟨b, off + c * 3 + 2, none⟩ = some (.int .i64 c2))
                  (first | exact HSX.out _ (Below.refl _ _) | exact HSX.out _ hq0 | exact HSX.out _ hq1)
                  (first
                    | (go_at_call 6; refine (HLW.out _ (HBk.out.trans (hq0.mono HBk.out.size))).mono ?_; rintro e W1 ⟨rfl, hb⟩; have hq1 := hq0.trans (hb.mono hq0.size); clear hb HLW))
                rename World => w8
                have HB8 := Lib.hid (HBk.out.trans (hq1.mono HBk.out.size))
                obtain ⟨⟨p0, p1, p2⟩, p3, p4, p5⟩ := HPW.out w8 HB8.out
                clear hq0 hq1 HSX HBk
                have HB8D : Hid (∀ k, Below w5.heap.size w5 (w8.drewN k)) := fun k => below_drewN HB8.out _
                by_cases hcm : c = m
                · have e1 : ((c : Int) != (m : Int)) = false := by simp [hcm]
                  have hrf : r = false := by
                    cases r with
                    | false => rfl
                    | true =>
                      have := HLT.out m c hlt hcn HRR.out
                      omega
                  subst hrf
                  have HF2 : Hid (fr ≤ c + 1 ∧ ∀ j, j < c + 1 → leansB md (P m) (P j) = true → j < fr) := ⟨by have := HF.out.1; omega, fun j hj hl => by
                    rcases Nat.lt_or_ge j c with h1 | h1
                    · exact HF.out.2 j h1 hl
                    · obtain rfl : j = c := by omega
                      rw [HRR.out] at hl; cases hl⟩
                  clear hcm HF HRR
                  go_upto_region 17 with fail
                  go_quiet (fail)
                  go_wp2_with fail
                  refine ⟨⟨c + 1, fr, by have := HCN.out; omega, rfl, by go_num, HF2, HB8D.out _⟩, by simp only [intOf]; have := HCN.out; omega⟩
                · have e1 : ((c : Int) != (m : Int)) = true := by simp; omega
                  have eqR : ∀ W, (binOp .eql 33 (.agg #[.int .i64 c0, .int .i64 c1, .int .i64 c2]) (.agg #[.int .i64 a0, .int .i64 a1, .int .i64 a2])).run Tryz.prog W = .ok (.bool false) W := fun W => by
                    have h := eqPl.1 (c0, c1, c2) (a0, a1, a2) W
                    have hne := HNE.out m c hlt hcn hcm
                    rw [HPCc.out, HAM.out] at hne
                    have hpe : plEq (c0, c1, c2) (a0, a1, a2) = false := by
                      rw [Bool.eq_false_iff]
                      intro hh
                      simp only [plEq, Bool.and_eq_true, beq_iff_eq] at hh
                      exact hne (by rw [hh.1, hh.2.1, hh.2.2])
                    rw [hpe] at h
                    exact h
                  cases r with
                  | false =>
                    have HF2 : Hid (fr ≤ c + 1 ∧ ∀ j, j < c + 1 → leansB md (P m) (P j) = true → j < fr) := ⟨by have := HF.out.1; omega, fun j hj hl => by
                      rcases Nat.lt_or_ge j c with h1 | h1
                      · exact HF.out.2 j h1 hl
                      · obtain rfl : j = c := by omega
                        rw [HRR.out] at hl; cases hl⟩
                    clear hcm HF HRR
                    go_upto_region 17 with fail
                    go_quiet (fail)
                    go_wp2_with fail
                    refine ⟨⟨c + 1, fr, by have := HCN.out; omega, rfl, by go_num, HF2, HB8D.out _⟩, by simp only [intOf]; have := HCN.out; omega⟩
                  | true =>
                    have hcm2 := HLT.out m c hlt hcn HRR.out
                    have i5 : ¬ (m : Int) ≤ (c : Int) := by omega
                    have HF2 : Hid (c + 1 ≤ c + 1 ∧ ∀ j, j < c + 1 → leansB md (P m) (P j) = true → j < c + 1) := ⟨Nat.le_refl _, fun j hj _ => hj⟩
                    clear hcm HF HRR hcm2
                    go_upto_region 17 with fail
                    go_quiet (fail)
                    go_wp2_with fail
                    refine ⟨⟨c + 1, c + 1, by have := HCN.out; omega, by go_num, by go_num, HF2, HB8D.out _⟩, by simp only [intOf]; have := HCN.out; omega⟩
              · obtain rfl : c = n := by omega
                have i3 : ¬ (c : Int) < (c : Int) := by omega
                have HFF := Lib.hid HF.out
                have HB9 := Lib.hid HBk.out
                clear HF HBk HB
                go_wp2_with fail
                go_loopw [11] (fun k wr => ∃ d : Nat, Hid (fr ≤ d) ∧ k = .int .i64 (d : Int) ∧ Hid (Below w5.heap.size w5 wr)) (fun k _ => m - (intOf k).toNat)
                case atStart => exact ⟨fr, Nat.le_refl _, rfl, HB9.out⟩
                case round =>
                  obtain ⟨d, HD, rfl, HBd⟩ := hrel
                  by_cases hdm : d < m
                  · have i4 : (d : Int) < (m : Int) := by omega
                    have i5 : (0 : Int) ≤ (d : Int) := by omega
                    have i6 : (d : Int) < (c : Int) := by omega
                    have HDM := Lib.hid hdm
                    have k3 : IntKind.i64.wrap ((d : Int) + 1) = (d : Int) + 1 := wrap_i64 (by omega) (by omega)
                    have hnl := HLS.out m d fr hlt hdm HD.out HFF.out.2
                    obtain ⟨p0, p1, p2⟩ := HPC.out wr HBd.out m hlt
                    obtain ⟨p3, p4, p5⟩ := HPC.out wr HBd.out d (by omega)
                    obtain ⟨c0, c1, c2, hc⟩ : ∃ c0 c1 c2, P d = (c0, c1, c2) := ⟨_, _, _, rfl⟩
                    rw [HAM.out] at p0 p1 p2
                    rw [hc] at p3 p4 p5
                    rw [HAM.out, hc] at hnl
                    simp only [plLt] at hnl
                    simp only at p0 p1 p2 p3 p4 p5
                    have j0 : ¬ a0 < c0 := by omega
                    have HB9D : Hid (∀ k, Below w5.heap.size w5 (wr.drewN k)) := fun k => below_drewN HBd.out _
                    by_cases h0 : a0 = c0
                    · have f0 : (a0 == c0) = true := by simp [h0]
                      have j1 : ¬ a1 < c1 := by omega
                      by_cases h1 : a1 = c1
                      · have f1 : (a1 == c1) = true := by simp [h1]
                        have j2 : ¬ a2 < c2 := by omega
                        clear hnl h0 h1 hc
                        go_upto_region 24 with fail
                        go_quiet (fail)
                        go_wp2_with fail
                        refine ⟨⟨d + 1, Nat.le_succ_of_le HD.out, by go_num, HB9D.out _⟩, by simp only [intOf]; have := HDM.out; omega⟩
                      · have f1 : (a1 == c1) = false := by simp [h1]
                        clear hnl h0 h1 hc
                        go_upto_region 24 with fail
                        go_quiet (fail)
                        go_wp2_with fail
                        refine ⟨⟨d + 1, Nat.le_succ_of_le HD.out, by go_num, HB9D.out _⟩, by simp only [intOf]; have := HDM.out; omega⟩
                    · have f0 : (a0 == c0) = false := by simp [h0]
                      clear hnl h0 hc
                      go_upto_region 24 with fail
                      go_quiet (fail)
                      go_wp2_with fail
                      refine ⟨⟨d + 1, Nat.le_succ_of_le HD.out, by go_num, HB9D.out _⟩, by simp only [intOf]; have := HDM.out; omega⟩
                  · have i4 : ¬ (d : Int) < (m : Int) := by omega
                    go_wp2_with fail
                    refine ⟨⟨m + 1, by have := HML.out; omega, by go_num, HBd⟩, by simp only [intOf]; have := HML.out; omega⟩
          · obtain rfl : m = n := by omega
            have i1 : ¬ (m : Int) < (m : Int) := by omega
            have HE := Lib.hid (HB1.out.trans ((HB5.out.trans (HB.out.mono HB5.out.size)).mono HB1.out.size))
            go_wp2_with fail
            go_ret
            exact ⟨rfl, HE.out⟩
--TSER
      · have hoa : ordA md = [] := by rw [ordA, if_neg (by rw [HQ.out]; exact h0)]
        rw [hoa]
        have HC5 := Lib.hid (HC.out w5 HB5.out)
        clear hmo hoa
        go_wp2_with fail
        refine HC5.out.mono ?_
        rintro e w6 ⟨rfl, hb6⟩
        have HE := Lib.hid (HB1.out.trans ((HB5.out.trans (hb6.mono HB5.out.size)).mono HB1.out.size))
        clear hb6 HC5
        go_wp2_with fail
        go_ret
        exact ⟨rfl, HE.out⟩
end Go.Proofs.YtfbbkmdhnkmonaaGreatDoor
