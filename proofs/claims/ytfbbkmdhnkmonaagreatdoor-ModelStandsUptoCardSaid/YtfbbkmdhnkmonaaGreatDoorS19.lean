/- package model: built, walked. package model: Check, walked. -/
import Derived.Test.YtfbbkmdhnkmonaaGreatDoorS18
import Derived.Test.YtfbbkmdhnkmonaaGreatDoorS32
namespace Go.Proofs.YtfbbkmdhnkmonaaGreatDoor
open Go.RowKit

/-- texts that a map may be keyed by -/
structure ModelD.Txt (md : ModelD) : Prop where
  attrs : ∀ x ∈ md.attrs, x.name.size ≤ maxLen
  events : ∀ x ∈ md.events, x.size ≤ maxLen
  stages : ∀ x ∈ md.stages, x.name.size ≤ maxLen
  stones : ∀ x ∈ md.stones, x.name.size ≤ maxLen
/-- append of texts to a clone -/
theorem own_join {w : World} {base B : Nat} {va : Option Addr} {vc : Nat} {rs ss : List ByteArray} {u : Value} (h : Own w base 9 1 va vc rs.length (rs.map Value.string)) (hb : base ≤ w.heap.size) (hl : rs.length + ss.length ≤ 4000000) (hu : Strs B w u ss) :
    ∃ va' vc' w', (Builtin.append_ #[26, 26] 26 #[.slice va rs.length vc, u]).run Tryz.prog w = .ok (.slice va' (rs ++ ss).length vc') w' ∧ Strs w'.heap.size w' (.slice va' (rs ++ ss).length vc') (rs ++ ss) ∧ Below base w w' := by
  obtain ⟨a, c, b, o, rfl, -, ha, hc⟩ := hu.cells
  obtain ⟨va', vc', w', hap, ho5, hg5⟩ := Own.app elemStr 26 h hb a ss.length c b o (ss.map Value.string) (by simp) (fun h0 => (ha h0).1) (fun j x hj => by
    have hjl := lt_of_some hj
    rw [List.length_map] at hjl
    rw [List.getElem?_map, List.getElem?_eq_getElem hjl] at hj
    injection hj with hj
    rw [← hj]; exact hc j hjl) (fun x hx => by
    obtain ⟨s, -, rfl⟩ := List.mem_map.1 hx
    rfl) (by unfold maxLen; omega) (by omega)
  have e1 : rs.length + ss.length = (rs ++ ss).length := by simp
  rw [← List.map_append] at ho5
  rw [e1] at hap ho5
  refine ⟨va', vc', w', hap, own_strs ho5, (Below.refl _ _).grown hg5 hb (fun j hj => ?_)⟩
  rcases h.block with ⟨h1, _⟩ | ⟨g, h1, h2, _⟩
  · rw [h1] at hj; cases hj
  · rw [h1] at hj; cases hj; exact h2
/-- an append whose run is known, behind a guard -/
theorem wpList_append_want {P : Program} {w : World} {ops : Array Oper} {rest : List Oper} {o : Oper} {a : Act} {Q : Exit → Act → World → Prop} (hw : Region.wanted o (yielded ops a.tmps) = true) (s x : Operand) (t : TypeId)
    (ho : o.op = .call { callee := .builtin .append, args := #[s, x], argTypes := #[t, t] }) {v xv v' : Value} {w' : World} (hs : a.eval s = v) (hx : a.eval x = xv)
    (hr : (Builtin.append_ #[t, t] o.type #[v, xv]).run P w = .ok v' w') (h : wpList P ops Q rest (a.put o.dst v') w') : wpList P ops Q (o :: rest) a w :=
  wpList_step fun K hK => by
    rw [if_pos hw]
    unfold Oper.wp execOp
    simp only [ho, resolve, invoke, builtin, Sem.run_bind, Sem.run_pure, Result.andThen_ok, List.map_toArray, List.map_cons, List.map_nil, hs, hx, hr]
    exact hK _ _ h
set_option maxHeartbeats 16000000 in
set_option maxRecDepth 100000 in
theorem built_walk (md : ModelD) (v : ModelV) (w : World) (hz : md.Sml) (hf : md.Few) (ht : md.Txt) (hM : ModelM false (From 0) w md v) (hv : GRng w) :
    Calls Tryz.prog 20 #[.agg (v.cs md).toArray] w (fun e w' => e = .returned (.bool (builtB md)) ∧ Below w.heap.size w w') := by
  obtain ⟨w1, hw1⟩ : ∃ w1, w.alloc (.cells (v.cs md).toArray 31) = w1 := ⟨_, rfl⟩
  have hb1 : Below w.heap.size w w1 := hw1 ▸ (Below.refl _ _).alloc (Nat.le_refl _) _
  have hx1 : Arr w1 w.heap.size 31 (v.cs md) := hw1 ▸ Arr.new w (v.cs md) _
  have HM := Lib.hid (fun W (hb : Below w1.heap.size w1 W) => hM.grow (hb1.trans (hb.mono hb1.size)))
  have HV := Lib.hid (fun W (hb : Below w1.heap.size w1 W) => hv.below (hb1.trans (hb.mono hb1.size)))
  have HX := Lib.hid hx1
  have HB1 := Lib.hid hb1
  have HW1 := Lib.hid hw1
  have HZ := Lib.hid hz
  have HF := Lib.hid hf
  have HT := Lib.hid ht
  obtain ⟨q, hq⟩ : ∃ q, builtB md = q := ⟨_, rfl⟩
  rw [hq]
  have HNO : Hid (¬ Built md → false = q) := fun h => by rw [← hq, builtB_no h]
  have HYES : Hid (Built md → true = q) := fun h => by rw [← hq, (builtB_iff md).2 h]
  have HR := Lib.hid (rows_walk md v w1 hz (hM.grow hb1))
  obtain ⟨y0, y1, y2, y3, y4, y5⟩ := box6 hx1 (Below.refl _ _)
  clear hM hv hb1 hx1 hw1 hz hf ht hq
  go_enter Tryz.func20, Tryz.ntmps20
  go_upto_region 1 with fail
  rw [HW1.out]
  go_wp2_with fail
  refine HR.out.mono ?_
  rintro e w2 ⟨hb2, v1, v2, v3, rfl, s1, s2, s3⟩
  have HB12 := Lib.hid hb2
  have HB2 := Lib.hid (HB1.out.trans (hb2.mono HB1.out.size))
  clear y0 y1 y2 y3 y4 y5 HR
  obtain ⟨y0, y1, y2, y3, y4, y5⟩ := box6 HX.out hb2
  have hal := HZ.out.attrs
  have hel := HZ.out.events
  have hsl := HZ.out.stages
  have htl := HZ.out.stones
  obtain ⟨r1, hr1⟩ : ∃ r, rowB (md.attrs.map AttrD.name) = r := ⟨_, rfl⟩
  obtain ⟨r2, hr2⟩ : ∃ r, rowB (md.events ++ md.stages.map StageD.name) = r := ⟨_, rfl⟩
  obtain ⟨r3, hr3⟩ : ∃ r, rowB (md.stones.map StoneD.name) = r := ⟨_, rfl⟩
  have HC1 := Lib.hid (mrow_walk v1 _ w2 (by rw [List.length_map]; omega) (fun s hs => by obtain ⟨x, hx, rfl⟩ := List.mem_map.1 hs; exact HT.out.attrs x hx) s1 (HV.out w2 hb2))
  rw [hr1] at HC1
  have HS2 := Lib.hid s2
  have HS3 := Lib.hid s3
  have HR1 := Lib.hid hr1
  clear hb2 s1 s2 s3 hr1
  cases r1 with
  | false =>
    have HQ := Lib.hid (HNO.out fun h => by have := h.attrs; rw [HR1.out] at this; cases this)
    go_wp2_with fail
    refine HC1.out.mono ?_
    rintro e w3 ⟨rfl, hb3⟩
    have HB3 := Lib.hid (HB2.out.trans (hb3.mono HB2.out.size))
    clear hb3 HC1
    go_wp2_with fail
    go_ret
    exact ⟨ret_bool HQ.out, HB3.out⟩
  | true =>
    go_wp2_with fail
    refine HC1.out.mono ?_
    rintro e w3 ⟨rfl, hb3⟩
    have hb13 := HB12.out.trans (hb3.mono HB12.out.size)
    have HB13 := Lib.hid hb13
    have HB3 := Lib.hid (HB1.out.trans (hb13.mono HB1.out.size))
    have HCL := Lib.hid (cloneStrs _ md.events w3 hel (strD_strs (HM.out w3 hb13).events))
    have HS2b := Lib.hid (strs_keep HS2.out hb3)
    have HS3b := Lib.hid (strs_keep HS3.out hb3)
    clear y0 y1 y2 y3 y4 y5 HC1 HS2 HS3
    obtain ⟨y0, y1, y2, y3, y4, y5⟩ := box6 HX.out hb13
    clear hb3 hb13
    go_wp2_with fail
    refine HCL.out.mono ?_
    rintro e w4 ⟨va, vc, rfl, hO, hb4⟩
    have hb14 := HB13.out.trans (hb4.mono HB13.out.size)
    obtain ⟨va', vc', w5, hap, hs5, hb5⟩ := own_join hO hb4.size (by rw [List.length_map]; omega) (strs_keep HS2b.out hb4)
    have hb45 := hb4.trans hb5
    have hb15 := HB13.out.trans (hb45.mono HB13.out.size)
    have HB15 := Lib.hid hb15
    have HB5 := Lib.hid (HB1.out.trans (hb15.mono HB1.out.size))
    have HS3c := Lib.hid (strs_keep HS3b.out hb45)
    have HC2 := Lib.hid (mrow_walk _ _ w5 (by rw [List.length_append, List.length_map]; omega) (fun s hs => by
      rcases List.mem_append.1 hs with hs | hs
      · exact HT.out.events s hs
      · obtain ⟨x, hx, rfl⟩ := List.mem_map.1 hs; exact HT.out.stages x hx) hs5 (HV.out w5 hb15))
    rw [hr2] at HC2
    rw [List.length_append, List.length_map] at HC2
    have HR2 := Lib.hid hr2
    clear y0 y1 y2 y3 y4 y5 HCL HS2b HS3b
    obtain ⟨y0, y1, y2, y3, y4, y5⟩ := box6 HX.out hb15
    have HAP := Lib.hid hap
    clear hO hb4 hb14 hb5 hb45 hb15 hs5 hr2 hap
    go_wp2_with (at_builtin; refine wpList_append_want (by rfl) (.tmp 23) (.tmp 24) 26 (by rfl) (by rfl) (by rfl) HAP.out ?_)
    refine HC2.out.mono ?_
    rintro e w6 ⟨rfl, hb6⟩
    have hb16 := HB15.out.trans (hb6.mono HB15.out.size)
    have HB16 := Lib.hid hb16
    have HB6 := Lib.hid (HB1.out.trans (hb16.mono HB1.out.size))
    have HC3 := Lib.hid (mrow_walk v3 _ w6 (by rw [List.length_map]; omega) (fun s hs => by obtain ⟨x, hx, rfl⟩ := List.mem_map.1 hs; exact HT.out.stones x hx) (strs_keep HS3c.out hb6) (HV.out w6 hb16))
    rw [hr3] at HC3
    have HR3 := Lib.hid hr3
    clear y0 y1 y2 y3 y4 y5 HC2 HS3c HAP
    obtain ⟨y0, y1, y2, y3, y4, y5⟩ := box6 HX.out hb16
    clear hb6 hb16 hr3
    cases r2 with
    | false =>
      have HQ := Lib.hid (HNO.out fun h => by have := h.both; rw [HR2.out] at this; cases this)
      go_wp2_with fail
      go_ret
      exact ⟨ret_bool HQ.out, HB6.out⟩
    | true =>
      go_wp2_with fail
      refine HC3.out.mono ?_
      rintro e w7 ⟨rfl, hb7⟩
      have hb17 := HB16.out.trans (hb7.mono HB16.out.size)
      have HB17 := Lib.hid hb17
      have HB7 := Lib.hid (HB1.out.trans (hb17.mono HB1.out.size))
      have egA : ∀ args w, (callFunc 46 args).run Tryz.prog w = .ok (.enter 46 args) w := enters_of Tryz.func46 (by kernel_rfl) rfl
      have HA := Lib.hid (hasAttrG badAttr 46 #[] egA md.attrs _ _ w7 hal (HM.out w7 hb17).attrs (badAttrCl w7))
      clear y0 y1 y2 y3 y4 y5 HC3
      obtain ⟨y0, y1, y2, y3, y4, y5⟩ := box6 HX.out hb17
      clear hb7 hb17 egA
      cases r3 with
      | false =>
        have HQ := Lib.hid (HNO.out fun h => by have := h.stones; rw [HR3.out] at this; cases this)
        go_wp2_with fail
        go_ret
        exact ⟨ret_bool HQ.out, HB7.out⟩
      | true =>
        obtain ⟨r4, hr4⟩ : ∃ r, md.attrs.any badAttr = r := ⟨_, rfl⟩
        rw [hr4] at HA
        have HR4 := Lib.hid hr4
        clear hr4
        go_wp2_with fail
        refine HA.out.mono ?_
        rintro e w8 ⟨rfl, hb8⟩
        have hb18 := HB17.out.trans (hb8.mono HB17.out.size)
        have HB18 := Lib.hid hb18
        have HB8 := Lib.hid (HB1.out.trans (hb18.mono HB1.out.size))
        clear y0 y1 y2 y3 y4 y5 HA
        obtain ⟨y0, y1, y2, y3, y4, y5⟩ := box6 HX.out hb18
        clear hb8 hb18
        cases r4 with
        | true =>
          have HQ := Lib.hid (HNO.out fun h => by have := h.kinds; rw [HR4.out] at this; cases this)
          go_wp2_with fail
          go_ret
          exact ⟨ret_bool HQ.out, HB8.out⟩
        | false =>
          go_wp2_with fail
          go_loopw [40] (fun i wr => ∃ m : Nat, m ≤ md.stages.length ∧ i = .int .i64 (m : Int) ∧ Hid (Below w1.heap.size w1 wr) ∧ Hid (∀ n (h : n < md.stages.length), n < m → stagedB md n md.stages[n] = true)) (fun i _ => md.stages.length - (intOf i).toNat)
          case atStart => exact ⟨0, Nat.zero_le _, rfl, HB18.out, fun n _ h => absurd h (Nat.not_lt_zero _)⟩
          case round =>
            obtain ⟨m, hml, rfl, HB, HS⟩ := hrel
            clear y0 y1 y2 y3 y4 y5
            obtain ⟨y0, y1, y2, y3, y4, y5⟩ := box6 HX.out HB.out
            by_cases hlt : m < md.stages.length
            · have i1 : (m : Int) < (md.stages.length : Int) := by omega
              have HML := Lib.hid hlt
              have HC := Lib.hid (staged_walk md v m hlt wr HZ.out (HM.out wr HB.out) (HV.out wr HB.out))
              obtain ⟨r, hr⟩ : ∃ r, stagedB md m (md.stages[m]'hlt) = r := ⟨_, rfl⟩
              rw [hr] at HC
              have HR := Lib.hid hr
              clear hr
              cases r with
              | false =>
                have HQ := Lib.hid (HNO.out fun h => by have := h.staged m HML.out; rw [HR.out] at this; cases this)
                go_wp2_with fail
                refine HC.out.mono ?_
                rintro e w9 ⟨rfl, hb9⟩
                have HB9 := Lib.hid (HB1.out.trans ((HB.out.trans (hb9.mono HB.out.size)).mono HB1.out.size))
                clear hb9 HC
                go_wp2_with fail
                go_ret
                exact ⟨ret_bool HQ.out, HB9.out⟩
              | true =>
                have wr1 : IntKind.i64.wrap ((m : Int) + 1) = (m : Int) + 1 := wrap_i64 (by omega) (by omega)
                go_wp2_with fail
                refine HC.out.mono ?_
                rintro e w9 ⟨rfl, hb9⟩
                have HB9 := Lib.hid (HB.out.trans (hb9.mono HB.out.size))
                have HS9 : Hid (∀ n (h : n < md.stages.length), n < m + 1 → stagedB md n md.stages[n] = true) := fun n h hn => by
                  rcases Nat.lt_or_ge n m with h1 | h1
                  · exact HS.out n h h1
                  · obtain rfl : n = m := by omega
                    exact HR.out
                clear hb9 HC y0 y1 y2 y3 y4 y5 HB HS
                go_wp2_with fail
                refine ⟨⟨m + 1, by have := HML.out; omega, by go_num, HB9, HS9⟩, by simp only [intOf]; have := HML.out; omega⟩
            · obtain rfl : m = md.stages.length := by omega
              have i1 : ¬ (md.stages.length : Int) < (md.stages.length : Int) := by omega
              have HP := Lib.hid (places_walk md v wr HF.out (HM.out wr HB.out))
              have HSA : Hid (∀ n (h : n < md.stages.length), stagedB md n md.stages[n] = true) := fun n h => HS.out n h h
              clear HS
              go_wp2_with fail
              refine HP.out.mono ?_
              rintro e w9 ⟨hb9, g, vc, M, ents, rfl, hg1, hg2, hpl, hMb, hme, hge⟩
              have hb19 := HB.out.trans (hb9.mono HB.out.size)
              have hrg := hme.range Tryz.underlying51
              obtain ⟨N, hN⟩ : ∃ N, ents.length = N := ⟨_, rfl⟩
              rw [hN] at hrg
              obtain ⟨wA, hwA⟩ : ∃ wA, w9.alloc (.mapIter (some M) N #[] N) = wA := ⟨_, rfl⟩
              have hb9A : Below w9.heap.size w9 wA := hwA ▸ (Below.refl _ _).alloc (Nat.le_refl _) _
              have hI0 : IterIs wA w9.heap.size M N [] := hwA ▸ IterIs.made w9 _ _
              have HI0 := Lib.hid hI0
              have HMA := Lib.hid (show KM.MapIs plV okPl wA M ents from hme.below hb9A hme.lt)
              have HB1A := Lib.hid (hb19.trans (hb9A.mono hb19.size))
              have HN := Lib.hid hN
              have HGE := Lib.hid hge
              have hsz : w1.heap.size ≤ w9.heap.size := hb19.size
              have hrl : w9.heap.size < wA.heap.size := by rw [← hwA, size_alloc]; omega
              have HRL := Lib.hid hrl
              have hMl := hme.lt
              rw [hwA] at hrg
              clear hb9 hg1 hg2 hpl hMb hme hge hb19 hwA hb9A hI0 hN HP hrl y0 y1 y2 y3 y4 y5 HB
              go_wp2_with fail
              go_loopg [] N (fun gf wr => ∃ seen : List Nat, N ≤ seen.length + gf ∧ Hid (IterIs wr w9.heap.size M N seen) ∧ Hid (KM.MapIs plV okPl wr M ents) ∧ Hid (Below w1.heap.size w1 wr) ∧ Hid (w9.heap.size < wr.heap.size) ∧ Hid (∀ i ∈ seen, ∀ (h : i < ents.length) s, senAt md ents[i].1 = some s → sentryB md s = true))
              case atStart => exact ⟨[], by simp, HI0.out, HMA.out, HB1A.out, HRL.out, fun i hi => absurd hi (by simp)⟩
              case round =>
                obtain ⟨seen, hgf, HI, HMM, HB, HR, HSS⟩ := hrel
                have hi1 := HI.out
                rw [← HN.out] at hi1
                rcases HMM.out.next (P := Tryz.prog) hi1 0 with ⟨hall, hnx⟩ | ⟨i, hi, hni, w4, hnx, hM4, hI4, hg4, hz4, hen⟩
                · obtain ⟨y0, y1, y2, y3, y4, y5⟩ := box6 HX.out HB.out
                  have egP : ∀ args w, (callFunc 50 args).run Tryz.prog w = .ok (.enter 50 args) w := enters_of Tryz.func50 (by kernel_rfl) rfl
                  have HPA := Lib.hid (hasPairG badPair 50 #[] egP md.apart _ _ wr HZ.out.apart (HM.out wr HB.out).apart (badPairCl wr (HV.out wr HB.out)))
                  obtain ⟨r, hr⟩ : ∃ r, md.apart.any badPair = r := ⟨_, rfl⟩
                  rw [hr] at HPA
                  have HQ : Hid ((!r) = q) := by
                    show _ = _
                    cases r with
                    | true => exact HNO.out fun h => by have := h.apart; rw [hr] at this; cases this
                    | false =>
                      refine HYES.out ⟨HR1.out, HR2.out, HR3.out, HR4.out, HSA.out, fun p s hs => ?_, hr⟩
                      have hk : p ∈ ents.map (·.1) := by
                        rw [← KM.getM_mem, HGE.out, senP, hs]; rfl
                      obtain ⟨j, hj, hje⟩ := List.mem_iff_getElem.1 hk
                      have hj' : j < ents.length := by simpa using hj
                      have hje' : ents[j].1 = p := by rw [← hje]; simp
                      exact HSS.out j (hall j hj') hj' s (by rw [hje']; exact hs)
                  have HB0 := Lib.hid (HB1.out.trans (HB.out.mono HB1.out.size))
                  clear hi1 hall egP hr HI HMM HB HR HSS hgf
                  go_wp2_with fail
                  refine HPA.out.mono ?_
                  rintro e w5 ⟨rfl, hb5⟩
                  have HB5 := Lib.hid (HB0.out.trans (hb5.mono HB0.out.size))
                  clear hb5 HPA hnx
                  go_wp2_with fail
                  go_ret
                  exact ⟨ret_bool HQ.out, HB5.out⟩
                · have hiN : i < N := by rw [← HN.out]; exact hi
                  have hgi := KM.getM_at HMM.out.nodup hi
                  rw [HGE.out, senP] at hgi
                  obtain ⟨s, hs, hsv⟩ := Option.map_eq_some_iff.1 hgi
                  rw [← hsv] at hnx hen
                  have hb4 : Below w1.heap.size w1 w4 := HB.out.grown hg4 HB.out.size (fun j hj => by cases hj; exact hsz)
                  have hb5 := hb4.alloc hb4.size (.cells #[.int .u8 s.on, .string s.name, .string s.cond] 35)
                  obtain ⟨y0, y1, y2, y3, y4, y5⟩ := box6 HX.out hb5
                  have HC := Lib.hid (sentry_walk md v s _ HZ.out (HM.out _ hb5) (HV.out _ hb5))
                  obtain ⟨r, hr⟩ : ∃ r, sentryB md s = r := ⟨_, rfl⟩
                  rw [hr] at HC
                  have HB4 := Lib.hid hb4
                  have HB5 := Lib.hid hb5
                  have HI4 := Lib.hid hI4
                  have HM4 := Lib.hid hM4
                  have HRR := Lib.hid hr
                  have HSI := Lib.hid hs
                  have hR4 : w9.heap.size < w4.heap.size := Nat.lt_of_lt_of_le HR.out (Nat.le_of_eq hz4.symm)
                  have HR4' := Lib.hid hR4
                  have hsl6 := seen_le hI4.nodup hI4.inB
                  have hgk : 0 < gk := by
                    have := HN.out
                    simp at hsl6; omega
                  obtain ⟨g0, rfl⟩ : ∃ g0, gk = g0 + 1 := ⟨gk - 1, by omega⟩
                  have HFU : Hid (N ≤ (seen ++ [i]).length + g0) := by show _ ≤ _; simp; omega
                  have HII := Lib.hid hi
                  simp only [senV] at hnx hen HC
                  clear hi1 hni hM4 hI4 hg4 hz4 hgi hs hsv hb4 hb5 hr hR4 hsl6 hgk HI HMM HB HR hgf hiN
                  cases r with
                  | false =>
                    have HQ := Lib.hid (HNO.out fun h => by have := h.sen _ s HSI.out; rw [HRR.out] at this; cases this)
                    go_wp2_with fail
                    refine HC.out.mono ?_
                    rintro e w5 ⟨rfl, hb5⟩
                    have HB6 := Lib.hid (HB1.out.trans ((HB5.out.trans (hb5.mono HB5.out.size)).mono HB1.out.size))
                    clear hb5 HC
                    go_wp2_with fail
                    go_ret
                    exact ⟨ret_bool HQ.out, HB6.out⟩
                  | true =>
                    have HS4 : Hid (∀ j ∈ seen ++ [i], ∀ (h : j < ents.length) s, senAt md ents[j].1 = some s → sentryB md s = true) := fun j hj h t ht => by
                      rcases List.mem_append.1 hj with hj | hj
                      · exact HSS.out j hj h t ht
                      · have : j = i := by simpa using hj
                        subst this
                        rw [HSI.out] at ht
                        cases ht
                        exact HRR.out
                    go_wp2_with fail
                    refine HC.out.mono ?_
                    rintro e w5 ⟨rfl, hb5⟩
                    have hb45 : Below w4.heap.size w4 w5 := ((Below.refl w4.heap.size w4).alloc (Nat.le_refl _) _).trans (hb5.mono (by rw [size_alloc]; omega))
                    have HI5 := Lib.hid (HI4.out.below hb45 HR4'.out)
                    have HM5 := Lib.hid (HM4.out.below hb45 HM4.out.lt)
                    have HB6 := Lib.hid (HB5.out.trans (hb5.mono HB5.out.size))
                    have HR5 : Hid (w9.heap.size < w5.heap.size) := Nat.lt_of_lt_of_le HR4'.out hb45.size
                    clear hb5 hb45 HC y0 y1 y2 y3 y4 y5
                    go_wp2_with fail
                    go_roundg g0
                    case measure => omega
                    case rel => exact ⟨seen ++ [i], HFU.out, by rw [HN.out] at HI5; exact HI5, HM5, HB6, HR5, HS4⟩
end Go.Proofs.YtfbbkmdhnkmonaaGreatDoor

namespace Go.Proofs.YtfbbkmdhnkmonaaGreatDoor
open Go.RowKit

def sumTo {α : Type} (f : α → Nat) (l : List α) (m : Nat) : Nat := ((l.take m).map f).sum
theorem sumTo_zero {α : Type} (f : α → Nat) (l : List α) : sumTo f l 0 = 0 := by simp [sumTo]
theorem sumTo_succ {α : Type} (f : α → Nat) (l : List α) {m : Nat} (h : m < l.length) : sumTo f l (m + 1) = sumTo f l m + f l[m] := by
  unfold sumTo
  rw [List.take_succ_eq_append_getElem h, List.map_append, List.sum_append]
  simp
theorem sumTo_all {α : Type} (f : α → Nat) (l : List α) : sumTo f l l.length = (l.map f).sum := by simp [sumTo]
theorem sumTo_le {α : Type} (f : α → Nat) (l : List α) (K : Nat) (h : ∀ x ∈ l, f x ≤ K) : ∀ m, m ≤ l.length → sumTo f l m ≤ m * K
  | 0, _ => by simp [sumTo]
  | m + 1, hm => by
    rw [sumTo_succ f l (by omega), Nat.add_mul, Nat.one_mul]
    have := sumTo_le f l K h m (by omega)
    have := h l[m] (List.getElem_mem _)
    omega
def stageN (s : StageD) : Nat := s.opens.length + s.closes.length
def stoneN (s : StoneD) : Nat := s.done.length + s.undo.length
theorem manyN_eq (md : ModelD) : manyN md = (md.stages.map stageN).sum + (md.stones.map stoneN).sum := rfl
theorem few_of {md : ModelD} (h : ¬ tooMany md) : md.Few := by
  unfold tooMany at h
  exact ⟨by omega, by omega, by omega⟩
theorem inOk_of {md : ModelD} (h : Built md) : InOk md := fun n hn => by
  have := h.staged n hn
  unfold stagedB at this
  split at this
  · cases this
  · rename_i h1
    omega
theorem cond_of {md : ModelD} (h : Built md) (p : Pl) (s : SentryD) (hs : senAt md p = some s) (hc : s.cond.size ≠ 0) : ∃ t, readOf s.cond = some t := by
  have := h.sen p s hs
  unfold sentryB at this
  rw [Bool.and_eq_true] at this
  have := this.2
  unfold truthB at this
  rw [if_neg hc] at this
  cases hr : readOf s.cond with
  | none => rw [hr] at this; cases this
  | some t => exact ⟨t, rfl⟩
set_option maxHeartbeats 32000000 in
set_option maxRecDepth 100000 in
theorem check_walk (md : ModelD) (v : ModelV) (w : World) (hz : md.Sml) (ht : md.Txt) (hM : ModelM false (From 0) w md v) (hv : GRng w) :
    Calls Tryz.prog 9 #[.agg (v.cs md).toArray] w (fun e w' => e = .returned (.int .i64 (checkE md)) ∧ Below w.heap.size w w') := by
  obtain ⟨w1, hw1⟩ : ∃ w1, w.alloc (.cells (v.cs md).toArray 31) = w1 := ⟨_, rfl⟩
  have hb1 : Below w.heap.size w w1 := hw1 ▸ (Below.refl _ _).alloc (Nat.le_refl _) _
  have hx1 : Arr w1 w.heap.size 31 (v.cs md) := hw1 ▸ Arr.new w (v.cs md) _
  have HM := Lib.hid (fun W (hb : Below w1.heap.size w1 W) => hM.grow (hb1.trans (hb.mono hb1.size)))
  have HV := Lib.hid (fun W (hb : Below w1.heap.size w1 W) => hv.below (hb1.trans (hb.mono hb1.size)))
  have HX := Lib.hid hx1
  have HB1 := Lib.hid hb1
  have HW1 := Lib.hid hw1
  have HZ := Lib.hid hz
  have HT := Lib.hid ht
  obtain ⟨q, hq⟩ : ∃ q, checkE md = q := ⟨_, rfl⟩
  rw [hq]
  have HQ := Lib.hid hq
  have HN := Lib.hid (named_walk md.name w1 (hv.below hb1))
  obtain ⟨r, hr⟩ : ∃ r, namedB md.name = r := ⟨_, rfl⟩
  rw [hr] at HN
  have HR := Lib.hid hr
  obtain ⟨va1, vc1, va2, vc2, va3, vc3, va4, vc4, va5, vc5⟩ := v
  obtain ⟨y0, y1, y2, y3, y4, y5⟩ := box6 hx1 (Below.refl _ _)
  clear hM hv hb1 hx1 hw1 hz ht hq hr
  go_enter Tryz.func9, Tryz.ntmps9
  go_upto_region 1 with fail
  rw [HW1.out]
  go_wp2_with fail
  refine HN.out.mono ?_
  rintro e w2 ⟨rfl, hb2⟩
  have HB2 := Lib.hid hb2
  clear y0 y1 y2 y3 y4 y5 HN hb2
  obtain ⟨y0, y1, y2, y3, y4, y5⟩ := box6 HX.out HB2.out
  cases r with
  | false =>
    have HE : Hid (5 = q) := by show _ = _; rw [← HQ.out, checkE, if_pos HR.out]
    have HBB := Lib.hid (HB1.out.trans (HB2.out.mono HB1.out.size))
    go_wp2_with fail
    go_ret
    exact ⟨ret_int HE.out, HBB.out⟩
  | true =>
    go_wp2_with fail
    have HL1 : Hid (∀ x ∈ md.stages, stageN x ≤ 2097152) := fun x hx => by have := HZ.out.inS x hx; unfold stageN; omega
    have HL2 : Hid (∀ x ∈ md.stones, stoneN x ≤ 2097152) := fun x hx => by have := HZ.out.inT x hx; unfold stoneN; omega
    have hsl := HZ.out.stages
    have htl := HZ.out.stones
    go_loopw [3, 17] (fun s i wr => ∃ m : Nat, m ≤ md.stages.length ∧ i = .int .i64 (m : Int) ∧ s = .int .i64 ((sumTo stageN md.stages m : Nat) : Int) ∧ Hid (Below w1.heap.size w1 wr)) (fun _ i _ => md.stages.length - (intOf i).toNat)
    case atStart => exact ⟨0, Nat.zero_le _, rfl, by rw [sumTo_zero]; rfl, HB2.out⟩
    case round =>
      obtain ⟨m, hml, rfl, rfl, HB⟩ := hrel
      clear y0 y1 y2 y3 y4 y5
      obtain ⟨y0, y1, y2, y3, y4, y5⟩ := box6 HX.out HB.out
      have hsum := sumTo_le stageN md.stages _ HL1.out m hml
      by_cases hlt : m < md.stages.length
      · have i1 : (m : Int) < (md.stages.length : Int) := by omega
        have i2 : (0 : Int) ≤ (m : Int) := by omega
        have HML := Lib.hid hlt
        obtain ⟨b, off, ha, hbl, d1, e1, d2, e2, s1, s2, c0, c1, c2, c3, c4, c5, c6⟩ := stage_at (HM.out wr HB.out) hlt
        obtain rfl : va3 = some ⟨b, off, none⟩ := ha
        have hin := HZ.out.inS _ (List.getElem_mem hlt)
        have hss : sumTo stageN md.stages (m + 1) = sumTo stageN md.stages m + (md.stages[m].opens.length + md.stages[m].closes.length) := sumTo_succ stageN md.stages hlt
        have HSS : Hid (((sumTo stageN md.stages m : Nat) : Int) + (((md.stages[m]'hlt).opens.length : Int) + ((md.stages[m]'hlt).closes.length : Int)) = ((sumTo stageN md.stages (m + 1) : Nat) : Int)) := by show _ = _; rw [hss]; omega
        obtain ⟨S, hS⟩ : ∃ S, sumTo stageN md.stages m = S := ⟨_, rfl⟩
        rw [hS] at hsum HSS ⊢
        have k1 : IntKind.i64.wrap (((md.stages[m]'hlt).opens.length : Int) + ((md.stages[m]'hlt).closes.length : Int)) = ((md.stages[m]'hlt).opens.length : Int) + ((md.stages[m]'hlt).closes.length : Int) := wrap_i64 (by omega) (by omega)
        have k2 : IntKind.i64.wrap ((S : Int) + (((md.stages[m]'hlt).opens.length : Int) + ((md.stages[m]'hlt).closes.length : Int))) = (S : Int) + (((md.stages[m]'hlt).opens.length : Int) + ((md.stages[m]'hlt).closes.length : Int)) := wrap_i64 (by omega) (by omega)
        have k3 : IntKind.i64.wrap ((m : Int) + 1) = (m : Int) + 1 := wrap_i64 (by omega) (by omega)
        obtain ⟨sd, hsd⟩ : ∃ sd, md.stages[m]'hlt = sd := ⟨_, rfl⟩
        rw [hsd] at c0 c1 c2 c3 c4 c5 c6 k1 k2 HSS
        have HBA := Lib.hid (HB.out.trans (((Below.refl wr.heap.size wr).alloc (Nat.le_refl _) (.cells #[.string sd.name, .int .i64 sd.inn, .slice d1 sd.opens.length e1, .slice d2 sd.closes.length e2, .string sd.role, .int .i64 sd.aft, .string sd.event] 38)).mono HB.out.size))
        clear s1 s2 hss hS hin hsum hsd
        go_wp2_with fail
        refine ⟨⟨m + 1, by have := HML.out; omega, by go_num, congrArg (Value.int .i64) HSS.out, HBA.out⟩, by simp only [intOf]; have := HML.out; omega⟩
      · obtain rfl : m = md.stages.length := by omega
        have i1 : ¬ (md.stages.length : Int) < (md.stages.length : Int) := by omega
        have HSA : Hid (sumTo stageN md.stages md.stages.length = (md.stages.map stageN).sum) := sumTo_all _ _
        obtain ⟨S0, hS0⟩ : ∃ S, sumTo stageN md.stages md.stages.length = S := ⟨_, rfl⟩
        rw [hS0] at hsum HSA ⊢
        clear hS0
        go_wp2_with fail
        go_loopw [3, 34] (fun s i wr => ∃ m : Nat, m ≤ md.stones.length ∧ i = .int .i64 (m : Int) ∧ s = .int .i64 ((S0 + sumTo stoneN md.stones m : Nat) : Int) ∧ Hid (Below w1.heap.size w1 wr)) (fun _ i _ => md.stones.length - (intOf i).toNat)
        case atStart => exact ⟨0, Nat.zero_le _, rfl, by rw [sumTo_zero]; rfl, HB.out⟩
        case round =>
          obtain ⟨m, hml, rfl, rfl, HB⟩ := hrel
          clear y0 y1 y2 y3 y4 y5
          obtain ⟨y0, y1, y2, y3, y4, y5⟩ := box6 HX.out HB.out
          have hsum2 := sumTo_le stoneN md.stones _ HL2.out m hml
          by_cases hlt : m < md.stones.length
          · have i1 : (m : Int) < (md.stones.length : Int) := by omega
            have i2 : (0 : Int) ≤ (m : Int) := by omega
            have HML := Lib.hid hlt
            obtain ⟨b, off, ha, hbl, d1, e1, d2, e2, s1, s2, c0, c1, c2⟩ := stone_at (HM.out wr HB.out) hlt
            obtain rfl : va4 = some ⟨b, off, none⟩ := ha
            have hin := HZ.out.inT _ (List.getElem_mem hlt)
            have hss : sumTo stoneN md.stones (m + 1) = sumTo stoneN md.stones m + (md.stones[m].done.length + md.stones[m].undo.length) := sumTo_succ stoneN md.stones hlt
            have HSS : Hid (((S0 + sumTo stoneN md.stones m : Nat) : Int) + (((md.stones[m]'hlt).done.length : Int) + ((md.stones[m]'hlt).undo.length : Int)) = ((S0 + sumTo stoneN md.stones (m + 1) : Nat) : Int)) := by show _ = _; rw [hss]; omega
            obtain ⟨S, hS⟩ : ∃ S, S0 + sumTo stoneN md.stones m = S := ⟨_, rfl⟩
            have hSb : S ≤ S0 + m * 2097152 := by omega
            rw [hS] at HSS ⊢
            have k1 : IntKind.i64.wrap (((md.stones[m]'hlt).done.length : Int) + ((md.stones[m]'hlt).undo.length : Int)) = ((md.stones[m]'hlt).done.length : Int) + ((md.stones[m]'hlt).undo.length : Int) := wrap_i64 (by omega) (by omega)
            have k2 : IntKind.i64.wrap ((S : Int) + (((md.stones[m]'hlt).done.length : Int) + ((md.stones[m]'hlt).undo.length : Int))) = (S : Int) + (((md.stones[m]'hlt).done.length : Int) + ((md.stones[m]'hlt).undo.length : Int)) := wrap_i64 (by omega) (by omega)
            have k3 : IntKind.i64.wrap ((m : Int) + 1) = (m : Int) + 1 := wrap_i64 (by omega) (by omega)
            obtain ⟨sd, hsd⟩ : ∃ sd, md.stones[m]'hlt = sd := ⟨_, rfl⟩
            rw [hsd] at c0 c1 c2 k1 k2 HSS
            have HBA := Lib.hid (HB.out.trans (((Below.refl wr.heap.size wr).alloc (Nat.le_refl _) (.cells #[.string sd.name, .slice d1 sd.done.length e1, .slice d2 sd.undo.length e2] 58)).mono HB.out.size))
            clear s1 s2 hss hS hin hsum2 hsd hSb
            go_wp2_with fail
            refine ⟨⟨m + 1, by have := HML.out; omega, by go_num, congrArg (Value.int .i64) HSS.out, HBA.out⟩, by simp only [intOf]; have := HML.out; omega⟩
          · obtain rfl : m = md.stones.length := by omega
            have i1 : ¬ (md.stones.length : Int) < (md.stones.length : Int) := by omega
            have HMY : Hid (S0 + sumTo stoneN md.stones md.stones.length = manyN md) := by show _ = _; rw [HSA.out, sumTo_all, manyN_eq]
            rw [HMY.out]
            have HBW := Lib.hid (HB1.out.trans (HB.out.mono HB1.out.size))
            have HTM : Hid (tooMany md → 4 = q) := fun h => by rw [← HQ.out, checkE, if_neg (by rw [HR.out]; simp), if_pos h]
            have hcase : 32 < md.attrs.length ∨ (¬ 32 < md.attrs.length ∧ 32 < md.events.length) ∨ (¬ 32 < md.attrs.length ∧ ¬ 32 < md.events.length ∧ 32 < md.stages.length) ∨ (¬ 32 < md.attrs.length ∧ ¬ 32 < md.events.length ∧ ¬ 32 < md.stages.length ∧ 32 < md.stones.length) ∨
                (¬ 32 < md.attrs.length ∧ ¬ 32 < md.events.length ∧ ¬ 32 < md.stages.length ∧ ¬ 32 < md.stones.length ∧ 32 < md.apart.length) ∨ (¬ 32 < md.attrs.length ∧ ¬ 32 < md.events.length ∧ ¬ 32 < md.stages.length ∧ ¬ 32 < md.stones.length ∧ ¬ 32 < md.apart.length ∧ 128 < manyN md) ∨
                (¬ 32 < md.attrs.length ∧ ¬ 32 < md.events.length ∧ ¬ 32 < md.stages.length ∧ ¬ 32 < md.stones.length ∧ ¬ 32 < md.apart.length ∧ ¬ 128 < manyN md) := by omega
            clear HMY HSA hsum hsum2
            rcases hcase with h1 | ⟨h1, h2⟩ | ⟨h1, h2, h3⟩ | ⟨h1, h2, h3, h4⟩ | ⟨h1, h2, h3, h4, h5⟩ | ⟨h1, h2, h3, h4, h5, h6⟩ | ⟨h1, h2, h3, h4, h5, h6⟩
            case inr.inr.inr.inr.inr.inr =>
              have j1 : ¬ (32 : Int) < (md.attrs.length : Int) := by omega
              have j2 : ¬ (32 : Int) < (md.events.length : Int) := by omega
              have j3 : ¬ (32 : Int) < (md.stages.length : Int) := by omega
              have j4 : ¬ (32 : Int) < (md.stones.length : Int) := by omega
              have j5 : ¬ (32 : Int) < (md.apart.length : Int) := by omega
              have j6 : ¬ (128 : Int) < (manyN md : Int) := by omega
              have htm : ¬ tooMany md := by unfold tooMany; omega
              have HF := Lib.hid (few_of htm)
              have HC := Lib.hid (built_walk md ⟨va1, vc1, va2, vc2, va3, vc3, va4, vc4, va5, vc5⟩ wr HZ.out HF.out HT.out (HM.out wr HB.out) (HV.out wr HB.out))
              obtain ⟨r, hr⟩ : ∃ r, builtB md = r := ⟨_, rfl⟩
              rw [hr] at HC
              have HR2 := Lib.hid hr
              have HQ2 : Hid (checkE md = if builtB md = false then 180 else if (orderL md).length < (placesL md).length then 181 else 0) := by show _ = _; rw [checkE, if_neg (by rw [HR.out]; simp), if_neg htm]
              clear hr htm h1 h2 h3 h4 h5 h6
              obtain ⟨y0, y1, y2, y3, y4, y5⟩ := box6 HX.out HB.out
              cases r with
              | false =>
                have HE : Hid (180 = q) := by show _ = _; rw [← HQ.out, HQ2.out, if_pos HR2.out]
                go_wp2_with fail
                refine HC.out.mono ?_
                rintro e w3 ⟨rfl, hb3⟩
                have HB3 := Lib.hid (HBW.out.trans (hb3.mono HBW.out.size))
                clear hb3 HC
                go_wp2_with fail
                go_ret
                exact ⟨ret_int HE.out, HB3.out⟩
              | true =>
                have HBT := Lib.hid ((builtB_iff md).1 HR2.out)
                go_wp2_with fail
                refine HC.out.mono ?_
                rintro e w3 ⟨rfl, hb3⟩
                have HB3 := Lib.hid (HB.out.trans (hb3.mono HB.out.size))
                have HP := Lib.hid (places_walk md ⟨va1, vc1, va2, vc2, va3, vc3, va4, vc4, va5, vc5⟩ w3 HF.out (HM.out w3 HB3.out))
                clear hb3 HC y0 y1 y2 y3 y4 y5
                obtain ⟨y0, y1, y2, y3, y4, y5⟩ := box6 HX.out HB3.out
                go_wp2_with fail
                refine HP.out.mono ?_
                rintro e w4 ⟨hb4, g, vc, M, ents, rfl, -, -, hpl, -, hme, hge⟩
                have HB4 := Lib.hid (HB3.out.trans (hb4.mono HB3.out.size))
                have HO := Lib.hid (ordered_walk md ⟨va1, vc1, va2, vc2, va3, vc3, va4, vc4, va5, vc5⟩ w4 _ vc M ents HZ.out HF.out (inOk_of HBT.out) (cond_of HBT.out) (HM.out w4 HB4.out) (HV.out w4 HB4.out) hpl hme hge)
                clear hb4 hpl hme hge HP y0 y1 y2 y3 y4 y5
                obtain ⟨y0, y1, y2, y3, y4, y5⟩ := box6 HX.out HB4.out
                go_wp2_with fail
                refine HO.out.mono ?_
                rintro e w5 ⟨hb5, oa, oc, rfl, -⟩
                have HB5 := Lib.hid (HB1.out.trans ((HB4.out.trans (hb5.mono HB4.out.size)).mono HB1.out.size))
                clear hb5 HO
                by_cases hlt : (orderL md).length < (placesL md).length
                · have k1 : ((orderL md).length : Int) < ((placesL md).length : Int) := by omega
                  have HE : Hid (181 = q) := by show _ = _; rw [← HQ.out, HQ2.out, if_neg (by rw [HR2.out]; simp), if_pos hlt]
                  go_wp2_with fail
                  go_ret
                  exact ⟨ret_int HE.out, HB5.out⟩
                · have k1 : ¬ ((orderL md).length : Int) < ((placesL md).length : Int) := by omega
                  have HE : Hid (0 = q) := by show _ = _; rw [← HQ.out, HQ2.out, if_neg (by rw [HR2.out]; simp), if_neg hlt]
                  go_wp2_with fail
                  go_ret
                  exact ⟨ret_int HE.out, HB5.out⟩
            all_goals
              have HE := Lib.hid (HTM.out (by unfold tooMany; omega))
            case inl =>
              have j1 : (32 : Int) < (md.attrs.length : Int) := by omega
              go_wp2_with fail
              go_ret
              exact ⟨ret_int HE.out, HBW.out⟩
            case inr.inl =>
              have j1 : ¬ (32 : Int) < (md.attrs.length : Int) := by omega
              have j2 : (32 : Int) < (md.events.length : Int) := by omega
              go_wp2_with fail
              go_ret
              exact ⟨ret_int HE.out, HBW.out⟩
            case inr.inr.inl =>
              have j1 : ¬ (32 : Int) < (md.attrs.length : Int) := by omega
              have j2 : ¬ (32 : Int) < (md.events.length : Int) := by omega
              have j3 : (32 : Int) < (md.stages.length : Int) := by omega
              go_wp2_with fail
              go_ret
              exact ⟨ret_int HE.out, HBW.out⟩
            case inr.inr.inr.inl =>
              have j1 : ¬ (32 : Int) < (md.attrs.length : Int) := by omega
              have j2 : ¬ (32 : Int) < (md.events.length : Int) := by omega
              have j3 : ¬ (32 : Int) < (md.stages.length : Int) := by omega
              have j4 : (32 : Int) < (md.stones.length : Int) := by omega
              go_wp2_with fail
              go_ret
              exact ⟨ret_int HE.out, HBW.out⟩
            case inr.inr.inr.inr.inl =>
              have j1 : ¬ (32 : Int) < (md.attrs.length : Int) := by omega
              have j2 : ¬ (32 : Int) < (md.events.length : Int) := by omega
              have j3 : ¬ (32 : Int) < (md.stages.length : Int) := by omega
              have j4 : ¬ (32 : Int) < (md.stones.length : Int) := by omega
              have j5 : (32 : Int) < (md.apart.length : Int) := by omega
              go_wp2_with fail
              go_ret
              exact ⟨ret_int HE.out, HBW.out⟩
            case inr.inr.inr.inr.inr.inl =>
              have j1 : ¬ (32 : Int) < (md.attrs.length : Int) := by omega
              have j2 : ¬ (32 : Int) < (md.events.length : Int) := by omega
              have j3 : ¬ (32 : Int) < (md.stages.length : Int) := by omega
              have j4 : ¬ (32 : Int) < (md.stones.length : Int) := by omega
              have j5 : ¬ (32 : Int) < (md.apart.length : Int) := by omega
              have j6 : (128 : Int) < (manyN md : Int) := by omega
              go_wp2_with fail
              go_ret
              exact ⟨ret_int HE.out, HBW.out⟩
end Go.Proofs.YtfbbkmdhnkmonaaGreatDoor
