/- package model: Order, Leans, walked. The law's small model. What the law's small model is judged by. docketlaw18: alive. -/
import Derived.Test.YtfbbkmdhnkmonaaGreatDoorS19
namespace Go.Proofs.YtfbbkmdhnkmonaaGreatDoor
open Go.RowKit

theorem ret_two {x : Bool} {y : Int} {r : Bool × Int} (h : (x, y) = r) : Ending.returned (.tuple #[.bool x, .int .i64 y]) = Ending.returned (.tuple #[.bool r.1, .int .i64 r.2]) := by rw [← h]
/-- what Check says of a sound model -/
theorem check_zero {md : ModelD} (h : checkE md = 0) : namedB md.name = true ∧ ¬ tooMany md ∧ builtB md = true ∧ (orderL md).length = (placesL md).length := by
  unfold checkE at h
  split at h
  · cases h
  · rename_i h1
    split at h
    · cases h
    · rename_i h2
      split at h
      · cases h
      · rename_i h3
        split at h
        · cases h
        · rename_i h4
          have := orderL_len md
          refine ⟨by simpa using h1, h2, by simpa using h3, by omega⟩
/-- the answer of Order -/
noncomputable def ordA (md : ModelD) : List Pl := if checkE md = 0 then orderL md else []
/-- the answer of Leans -/
noncomputable def leansA (md : ModelD) (a b : Pl) : Bool × Int := if checkE md = 0 then (if a ∈ placesL md ∧ b ∈ placesL md then (leansB md a b, 0) else (false, 2)) else (false, checkE md)
def OrderEnd (md : ModelD) (w : World) (e : Ending) (w' : World) : Prop := Below w.heap.size w w' ∧ ∃ va vc, e = .returned (.tuple #[.slice va (ordA md).length vc, .int .i64 (checkE md)]) ∧ Mem false (From 0) w' (flatL 3 plC (ordA md)) (.slice va (ordA md).length vc)
set_option maxHeartbeats 16000000 in
set_option maxRecDepth 100000 in
theorem order_walk (md : ModelD) (v : ModelV) (w : World) (hz : md.Sml) (ht : md.Txt) (hM : ModelM false (From 0) w md v) (hv : GRng w) :
    Calls Tryz.prog 11 #[.agg (v.cs md).toArray] w (OrderEnd md w) := by
  obtain ⟨w1, hw1⟩ : ∃ w1, w.alloc (.cells (v.cs md).toArray 31) = w1 := ⟨_, rfl⟩
  have hb1 : Below w.heap.size w w1 := hw1 ▸ (Below.refl _ _).alloc (Nat.le_refl _) _
  have hx1 : Arr w1 w.heap.size 31 (v.cs md) := hw1 ▸ Arr.new w (v.cs md) _
  have HM := Lib.hid (fun W (hb : Below w1.heap.size w1 W) => hM.grow (hb1.trans (hb.mono hb1.size)))
  have HV := Lib.hid (fun W (hb : Below w1.heap.size w1 W) => hv.below (hb1.trans (hb.mono hb1.size)))
  have HX := Lib.hid hx1
  have HB1 := Lib.hid hb1
  have HW1 := Lib.hid hw1
  have HZ := Lib.hid hz
  have HC := Lib.hid (check_walk md v w1 hz ht (hM.grow hb1) (hv.below hb1))
  obtain ⟨q, hq⟩ : ∃ q, checkE md = q := ⟨_, rfl⟩
  rw [hq] at HC
  have HQ := Lib.hid hq
  obtain ⟨va1, vc1, va2, vc2, va3, vc3, va4, vc4, va5, vc5⟩ := v
  obtain ⟨y0, y1, y2, y3, y4, y5⟩ := box6 hx1 (Below.refl _ _)
  clear hM hv hb1 hx1 hw1 hz ht hq
  go_enter Tryz.func11, Tryz.ntmps11
  go_upto_region 1 with fail
  rw [HW1.out]
  go_wp2_with fail
  refine HC.out.mono ?_
  rintro e w2 ⟨rfl, hb2⟩
  have HB2 := Lib.hid hb2
  clear y0 y1 y2 y3 y4 y5 HC hb2
  obtain ⟨y0, y1, y2, y3, y4, y5⟩ := box6 HX.out HB2.out
  by_cases h0 : q = 0
  · have HCZ := Lib.hid (check_zero (HQ.out.trans h0))
    have HF := Lib.hid (few_of HCZ.out.2.1)
    have HBT := Lib.hid ((builtB_iff md).1 HCZ.out.2.2.1)
    have HP := Lib.hid (places_walk md ⟨va1, vc1, va2, vc2, va3, vc3, va4, vc4, va5, vc5⟩ w2 HF.out (HM.out w2 HB2.out))
    have HOA : Hid (ordA md = orderL md) := by show _ = _; rw [ordA, if_pos (HQ.out.trans h0)]
    subst h0
    go_wp2_with fail
    refine HP.out.mono ?_
    rintro e w4 ⟨hb4, g, vc, M, ents, rfl, -, -, hpl, -, hme, hge⟩
    have HB4 := Lib.hid (HB2.out.trans (hb4.mono HB2.out.size))
    have HO := Lib.hid (ordered_walk md ⟨va1, vc1, va2, vc2, va3, vc3, va4, vc4, va5, vc5⟩ w4 _ vc M ents HZ.out HF.out (inOk_of HBT.out) (cond_of HBT.out) (HM.out w4 HB4.out) (HV.out w4 HB4.out) hpl hme hge)
    clear hb4 hpl hme hge HP y0 y1 y2 y3 y4 y5
    obtain ⟨y0, y1, y2, y3, y4, y5⟩ := box6 HX.out HB4.out
    go_wp2_with fail
    refine HO.out.mono ?_
    rintro e w5 ⟨hb5, oa, oc, rfl, hmo⟩
    have HE : Hid (OrderEnd md w (.returned (.tuple #[.slice oa (orderL md).length oc, .int .i64 0])) w5) :=
      ⟨HB1.out.trans ((HB4.out.trans (hb5.mono HB4.out.size)).mono HB1.out.size), oa, oc, by rw [HOA.out, HQ.out], by rw [HOA.out]; exact hmo⟩
    clear hb5 hmo HO
    go_wp2_with fail
    refine bodyPost_end (results_tmp2 (Tryz.results11) _ _ _) rfl ?_
    exact HE.out
  · have HE : Hid (OrderEnd md w (.returned (.tuple #[.slice none 0 0, .int .i64 q])) w2) := by
      have hoa : ordA md = [] := by rw [ordA, if_neg (by rw [HQ.out]; exact h0)]
      exact ⟨HB1.out.trans (HB2.out.mono HB1.out.size), none, 0, by rw [hoa, HQ.out]; rfl, by rw [hoa]; exact mem_empty _ _ _⟩
    go_wp2_with fail
    refine bodyPost_end (results_tmp2 (Tryz.results11) _ _ _) rfl ?_
    exact HE.out
set_option maxHeartbeats 16000000 in
set_option maxRecDepth 100000 in
theorem leansX_walk (md : ModelD) (v : ModelV) (a b : Pl) (w : World) (hz : md.Sml) (ht : md.Txt) (hM : ModelM false (From 0) w md v) (hv : GRng w) :
    Calls Tryz.prog 6 #[.agg (v.cs md).toArray, plV a, plV b] w (fun e w' => e = .returned (.tuple #[.bool (leansA md a b).1, .int .i64 (leansA md a b).2]) ∧ Below w.heap.size w w') := by
  obtain ⟨va1, vc1, va2, vc2, va3, vc3, va4, vc4, va5, vc5⟩ := v
  obtain ⟨p0, p1, p2⟩ := a
  obtain ⟨q0, q1, q2⟩ := b
  simp only [plV]
  obtain ⟨ra, hra⟩ : ∃ r, leansA md (p0, p1, p2) (q0, q1, q2) = r := ⟨_, rfl⟩
  rw [hra]
  have HRA := Lib.hid hra
  clear hra
  obtain ⟨wa, hwa⟩ : ∃ wa, w.alloc (.cells (ModelV.cs ⟨va1, vc1, va2, vc2, va3, vc3, va4, vc4, va5, vc5⟩ md).toArray 31) = wa := ⟨_, rfl⟩
  obtain ⟨w1, hw1⟩ : ∃ w1, (wa.alloc (.cells #[.int .i64 p0, .int .i64 p1, .int .i64 p2] 33)).alloc (.cells #[.int .i64 q0, .int .i64 q1, .int .i64 q2] 33) = w1 := ⟨_, rfl⟩
  have hza : wa.heap.size = w.heap.size + 1 := by rw [← hwa, size_alloc]
  have hba : Below w.heap.size w wa := hwa ▸ (Below.refl _ _).alloc (Nat.le_refl _) _
  have hb1 : Below w.heap.size w w1 := hw1 ▸ (hba.alloc (by omega) _).alloc (by rw [size_alloc]; omega) _
  have hxm : Arr w1 w.heap.size 31 (ModelV.cs ⟨va1, vc1, va2, vc2, va3, vc3, va4, vc4, va5, vc5⟩ md) := hw1 ▸ ((show Arr wa _ _ _ from hwa ▸ Arr.new w (ModelV.cs ⟨va1, vc1, va2, vc2, va3, vc3, va4, vc4, va5, vc5⟩ md) _).alloc _).alloc _
  have hxa : Arr w1 (w.heap.size + 1) 33 [.int .i64 p0, .int .i64 p1, .int .i64 p2] := hw1 ▸ (show Arr _ (w.heap.size + 1) _ _ from ⟨alloc_at (by rw [hza])⟩).alloc _
  have hxb : Arr w1 (w.heap.size + 1 + 1) 33 [.int .i64 q0, .int .i64 q1, .int .i64 q2] := hw1 ▸ ⟨alloc_at (by rw [size_alloc, hza])⟩
  have HM := Lib.hid (fun W (hb : Below w1.heap.size w1 W) => hM.grow (hb1.trans (hb.mono hb1.size)))
  have HV := Lib.hid (fun W (hb : Below w1.heap.size w1 W) => hv.below (hb1.trans (hb.mono hb1.size)))
  have HSW : Hid (∀ W', Below w1.heap.size w1 W' → (W'.cell? ⟨w.heap.size, 0, none⟩ = some (.string md.name) ∧ W'.cell? ⟨w.heap.size, 1, none⟩ = some (.slice va1 md.attrs.length vc1) ∧ W'.cell? ⟨w.heap.size, 2, none⟩ = some (.slice va2 md.events.length vc2) ∧ W'.cell? ⟨w.heap.size, 3, none⟩ = some (.slice va3 md.stages.length vc3) ∧
      W'.cell? ⟨w.heap.size, 4, none⟩ = some (.slice va4 md.stones.length vc4) ∧ W'.cell? ⟨w.heap.size, 5, none⟩ = some (.slice va5 md.apart.length vc5) ∧ W'.cell? ⟨w.heap.size + 1, 0, none⟩ = some (.int .i64 p0) ∧ W'.cell? ⟨w.heap.size + 1, 1, none⟩ = some (.int .i64 p1) ∧ W'.cell? ⟨w.heap.size + 1, 2, none⟩ = some (.int .i64 p2) ∧
      W'.cell? ⟨w.heap.size + 1 + 1, 0, none⟩ = some (.int .i64 q0) ∧ W'.cell? ⟨w.heap.size + 1 + 1, 1, none⟩ = some (.int .i64 q1) ∧ W'.cell? ⟨w.heap.size + 1 + 1, 2, none⟩ = some (.int .i64 q2))) := fun W' hb => by
    obtain ⟨m0, m1, m2, m3, m4, m5⟩ := box6 hxm hb
    exact ⟨m0, m1, m2, m3, m4, m5, cellBelow2 hb (hxa.cell (j := 0) (by simp)), cellBelow2 hb (hxa.cell (j := 1) (by simp)), cellBelow2 hb (hxa.cell (j := 2) (by simp)), cellBelow2 hb (hxb.cell (j := 0) (by simp)), cellBelow2 hb (hxb.cell (j := 1) (by simp)), cellBelow2 hb (hxb.cell (j := 2) (by simp))⟩
  have HWA := Lib.hid hwa
  have HW1 := Lib.hid hw1
  have HB1 := Lib.hid hb1
  have HZ := Lib.hid hz
  have HC := Lib.hid (check_walk md ⟨va1, vc1, va2, vc2, va3, vc3, va4, vc4, va5, vc5⟩ w1 hz ht (hM.grow hb1) (hv.below hb1))
  obtain ⟨q, hq⟩ : ∃ q, checkE md = q := ⟨_, rfl⟩
  rw [hq] at HC
  have HQ := Lib.hid hq
  obtain ⟨m0, m1, m2, m3, m4, m5, x0, x1, x2, z0, z1, z2⟩ := HSW.out w1 (Below.refl _ _)
  clear hM hv hb1 hxm hxa hxb hw1 hwa hz ht hq hba hza
  go_enter Tryz.func6, Tryz.ntmps6
  go_upto_region 1 with fail
  rw [HWA.out, HW1.out]
  go_wp2_with fail
  refine HC.out.mono ?_
  rintro e w2 ⟨rfl, hb2⟩
  have HB2 := Lib.hid hb2
  clear m0 m1 m2 m3 m4 m5 x0 x1 x2 z0 z1 z2 HC hb2
  obtain ⟨m0, m1, m2, m3, m4, m5, x0, x1, x2, z0, z1, z2⟩ := HSW.out w2 HB2.out
  by_cases h0 : q = 0
  · have HCZ := Lib.hid (check_zero (HQ.out.trans h0))
    have HF := Lib.hid (few_of HCZ.out.2.1)
    have HBT := Lib.hid ((builtB_iff md).1 HCZ.out.2.2.1)
    have HP := Lib.hid (places_walk md ⟨va1, vc1, va2, vc2, va3, vc3, va4, vc4, va5, vc5⟩ w2 HF.out (HM.out w2 HB2.out))
    have HLA : Hid (leansA md (p0, p1, p2) (q0, q1, q2) = if (p0, p1, p2) ∈ placesL md ∧ (q0, q1, q2) ∈ placesL md then (leansB md (p0, p1, p2) (q0, q1, q2), 0) else (false, 2)) := by show _ = _; rw [leansA, if_pos (HQ.out.trans h0)]
    subst h0
    go_wp2_with fail
    refine HP.out.mono ?_
    rintro e w4 ⟨hb4, g, vc, M, ents, rfl, -, -, hpl, -, hme, hge⟩
    have HB4 := Lib.hid (HB2.out.trans (hb4.mono HB2.out.size))
    have hpn : (placesL md).length ≤ 1048576 := by rw [length_placesL]; have := HF.out.many; omega
    have HC1 := Lib.hid (containsPl (placesL md) (p0, p1, p2) _ vc w4 hpn hpl)
    have HC2 := Lib.hid (fun W (hb : Below w4.heap.size w4 W) => containsPl (placesL md) (q0, q1, q2) _ vc W hpn (hpl.grow hb))
    have HLK := Lib.hid (fun W (hb : Below w4.heap.size w4 W) (p : Pl) (s : SentryD) (hp : okPl p) (hs : senAt md p = some s) => (by
      have := (hme.below hb hme.lt).get Tryz.underlying51 plEnc Tryz.zeroValue35 hp
      rw [hge, senP, hs] at this
      exact this : (Instr.lookup 51 (.map (some M)) (plV p) false).run Tryz.prog W = .ok (senV s) W))
    obtain ⟨r1, hr1⟩ : ∃ r, decide ((p0, p1, p2) ∈ placesL md) = r := ⟨_, rfl⟩
    obtain ⟨r2, hr2⟩ : ∃ r, decide ((q0, q1, q2) ∈ placesL md) = r := ⟨_, rfl⟩
    rw [hr1] at HC1
    simp only [hr2] at HC2
    have HR1 := Lib.hid hr1
    have HR2 := Lib.hid hr2
    clear hb4 hpl hme hge HP m0 m1 m2 m3 m4 m5 x0 x1 x2 z0 z1 z2 hpn hr1 hr2
    obtain ⟨m0, m1, m2, m3, m4, m5, x0, x1, x2, z0, z1, z2⟩ := HSW.out w4 HB4.out
    go_wp2_with fail
    refine HC1.out.mono ?_
    rintro e w5 ⟨rfl, hb5⟩
    have HB5 := Lib.hid (HB4.out.trans (hb5.mono HB4.out.size))
    have HB45 := Lib.hid hb5
    clear hb5 HC1 m0 m1 m2 m3 m4 m5 x0 x1 x2 z0 z1 z2
    obtain ⟨m0, m1, m2, m3, m4, m5, x0, x1, x2, z0, z1, z2⟩ := HSW.out w5 HB5.out
    cases r1 with
    | false =>
      have HE : Hid ((false, 2) = ra) := by
        show _ = _
        rw [← HRA.out, HLA.out, if_neg (fun h => by have := HR1.out; rw [decide_eq_false_iff_not] at this; exact this h.1)]
      have HBB := Lib.hid (HB1.out.trans (HB5.out.mono HB1.out.size))
      go_wp2_with fail
      try simp only [Exit.inBlock, Exit.then]
      refine bodyPost_ret (results_tmp2 (Tryz.results6) _ _ _) rfl ?_
      exact ⟨ret_two HE.out, HBB.out⟩
    | true =>
      have HC3 := Lib.hid (HC2.out w5 HB45.out)
      go_wp2_with fail
      refine HC3.out.mono ?_
      rintro e w6 ⟨rfl, hb6⟩
      have HB6 := Lib.hid (HB5.out.trans (hb6.mono HB5.out.size))
      have HB46 := Lib.hid (HB45.out.trans (hb6.mono HB45.out.size))
      clear hb6 HC3 m0 m1 m2 m3 m4 m5 x0 x1 x2 z0 z1 z2
      obtain ⟨m0, m1, m2, m3, m4, m5, x0, x1, x2, z0, z1, z2⟩ := HSW.out w6 HB6.out
      cases r2 with
      | false =>
        have HE : Hid ((false, 2) = ra) := by
          show _ = _
          rw [← HRA.out, HLA.out, if_neg (fun h => by have := HR2.out; rw [decide_eq_false_iff_not] at this; exact this h.2)]
        have HBB := Lib.hid (HB1.out.trans (HB6.out.mono HB1.out.size))
        go_wp2_with fail
        try simp only [Exit.inBlock, Exit.then]
        refine bodyPost_ret (results_tmp2 (Tryz.results6) _ _ _) rfl ?_
        exact ⟨ret_two HE.out, HBB.out⟩
      | true =>
        have h1 : (p0, p1, p2) ∈ placesL md := of_decide_eq_true HR1.out
        have h2 : (q0, q1, q2) ∈ placesL md := of_decide_eq_true HR2.out
        have HE : Hid ((leansB md (p0, p1, p2) (q0, q1, q2), 0) = ra) := by
          show _ = _
          rw [← HRA.out, HLA.out, if_pos ⟨h1, h2⟩]
        obtain ⟨s, hs, hls⟩ := leansB_at h1 (q0, q1, q2)
        have HL := Lib.hid (fun W (hb : Below w6.heap.size w6 W) => leans_walk md ⟨va1, vc1, va2, vc2, va3, vc3, va4, vc4, va5, vc5⟩ (p0, p1, p2) (q0, q1, q2) s W HZ.out (inOk_of HBT.out) (place_stage h1) (cond_of HBT.out _ s hs) (HM.out W (HB6.out.trans (hb.mono HB6.out.size))) (HV.out W (HB6.out.trans (hb.mono HB6.out.size))))
        rw [hls] at HE
        obtain ⟨r, hr⟩ : ∃ r, leansS md (p0, p1, p2) (q0, q1, q2) s = r := ⟨_, rfl⟩
        simp only [hr, plV, senV] at HL
        rw [hr] at HE
        have HSX : Hid (∀ W', Below w6.heap.size w6 W' → (Below w6.heap.size w6 W' ∧ W'.cell? ⟨w.heap.size, 0, none⟩ = some (.string md.name) ∧ W'.cell? ⟨w.heap.size, 1, none⟩ = some (.slice va1 md.attrs.length vc1) ∧ W'.cell? ⟨w.heap.size, 2, none⟩ = some (.slice va2 md.events.length vc2) ∧ W'.cell? ⟨w.heap.size, 3, none⟩ = some (.slice va3 md.stages.length vc3) ∧
          W'.cell? ⟨w.heap.size, 4, none⟩ = some (.slice va4 md.stones.length vc4) ∧ W'.cell? ⟨w.heap.size, 5, none⟩ = some (.slice va5 md.apart.length vc5) ∧ W'.cell? ⟨w.heap.size + 1, 0, none⟩ = some (.int .i64 p0) ∧ W'.cell? ⟨w.heap.size + 1, 1, none⟩ = some (.int .i64 p1) ∧ W'.cell? ⟨w.heap.size + 1, 2, none⟩ = some (.int .i64 p2) ∧
          W'.cell? ⟨w.heap.size + 1 + 1, 0, none⟩ = some (.int .i64 q0) ∧ W'.cell? ⟨w.heap.size + 1 + 1, 1, none⟩ = some (.int .i64 q1) ∧ W'.cell? ⟨w.heap.size + 1 + 1, 2, none⟩ = some (.int .i64 q2) ∧
          (Instr.lookup 51 (.map (some M)) (.agg #[.int .i64 p0, .int .i64 p1, .int .i64 p2]) false).run Tryz.prog W' = .ok (.agg #[.int .u8 s.on, .string s.name, .string s.cond]) W')) := fun W' hb => by
          obtain ⟨a0, a1, a2, a3, a4, a5, a6, a7, a8, a9, a10, a11⟩ := HSW.out W' (HB6.out.trans (hb.mono HB6.out.size))
          exact ⟨hb, a0, a1, a2, a3, a4, a5, a6, a7, a8, a9, a10, a11, HLK.out W' (HB46.out.trans (hb.mono HB46.out.size)) (p0, p1, p2) s (okPl_places HF.out h1) hs⟩
        have hq0 := (Below.refl w6.heap.size w6).drew
        clear h1 h2 hs hls hr
        go_upto_region 7 with fail
        clear m0 m1 m2 m3 m4 m5 x0 x1 x2 z0 z1 z2
        go_region_held3 (fun W' => Below w6.heap.size w6 W' ∧ W'.cell? ⟨w.heap.size, 0, none⟩ = some (.string md.name) ∧ W'.cell? ⟨w.heap.size, 1, none⟩ = some (.slice va1 md.attrs.length vc1) ∧ W'.cell? ⟨w.heap.size, 2, none⟩ = some (.slice va2 md.events.length vc2) ∧ W'.cell? ⟨w.heap.size, 3, none⟩ = some (.slice va3 md.stages.length vc3) ∧
          W'.cell? ⟨w.heap.size, 4, none⟩ = some (.slice va4 md.stones.length vc4) ∧ W'.cell? ⟨w.heap.size, 5, none⟩ = some (.slice va5 md.apart.length vc5) ∧ W'.cell? ⟨w.heap.size + 1, 0, none⟩ = some (.int .i64 p0) ∧ W'.cell? ⟨w.heap.size + 1, 1, none⟩ = some (.int .i64 p1) ∧ W'.cell? ⟨w.heap.size + 1, 2, none⟩ = some (.int .i64 p2) ∧
          W'.cell? ⟨w.heap.size + 1 + 1, 0, none⟩ = some (.int .i64 q0) ∧ W'.cell? ⟨w.heap.size + 1 + 1, 1, none⟩ = some (.int .i64 q1) ∧ W'.cell? ⟨w.heap.size + 1 + 1, 2, none⟩ = some (.int .i64 q2) ∧
          (Instr.lookup 51 (.map (some M)) (.agg #[.int .i64 p0, .int .i64 p1, .int .i64 p2]) false).run Tryz.prog W' = .ok (.agg #[.int .u8 s.on, .string s.name, .string s.cond]) W')
          (first | exact HSX.out _ (Below.refl _ _) | exact HSX.out _ hq0 | exact HSX.out _ hq1)
          (first
            | (go_at_call 18; refine (HL.out _ hq0).mono ?_; rintro e W1 ⟨rfl, hb⟩; have hq1 := hq0.trans (hb.mono hq0.size); clear hb HL))
        have HBB := Lib.hid (HB1.out.trans ((HB6.out.trans (hq1.mono HB6.out.size)).mono HB1.out.size))
        go_wp2_with fail
        try simp only [Exit.inBlock, Exit.then]
        refine bodyPost_ret (results_tmp2 (Tryz.results6) _ _ _) rfl ?_
        exact ⟨ret_two HE.out, HBB.out⟩
  · have HE : Hid ((false, q) = ra) := by show _ = _; rw [← HRA.out, leansA, if_neg (by rw [HQ.out]; exact h0), HQ.out]
    have HBB := Lib.hid (HB1.out.trans (HB2.out.mono HB1.out.size))
    go_wp2_with fail
    try simp only [Exit.inBlock, Exit.then]
    refine bodyPost_ret (results_tmp2 (Tryz.results6) _ _ _) rfl ?_
    exact ⟨ret_two HE.out, HBB.out⟩
end Go.Proofs.YtfbbkmdhnkmonaaGreatDoor

namespace Go.Proofs.YtfbbkmdhnkmonaaGreatDoor
open Go.RowKit

def mzM : ByteArray := ⟨#[109]⟩
def mzGo : ByteArray := ⟨#[103, 111]⟩
def mzA : ByteArray := ⟨#[97]⟩
def mzB : ByteArray := ⟨#[98]⟩
def mzX : ByteArray := ⟨#[120]⟩
def mzE : ByteArray := ⟨#[]⟩
def mzOp : ByteArray := ⟨#[111, 112, 101, 110]⟩
/-- the small model, and what the law makes of it -/
def smD (nm : ByteArray) (s0 : SentryD) (inn : Int) : ModelD := { name := nm, attrs := [], events := [mzGo], stages := [{ name := mzA, inn := -1, opens := [s0], closes := [], role := mzE, aft := 0, event := mzE }, { name := mzB, inn := inn, opens := [⟨2, mzA, mzE⟩], closes := [], role := mzE, aft := 0, event := mzE }], stones := [], apart := [] }
def smV (g1 g2 : Nat) : ModelV := ⟨none, 0, some ⟨g1, 0, none⟩, 1, some ⟨g2, 0, none⟩, 2, none, 0, none, 0⟩
/-- its cells -/
structure SmM (w : World) (s0 : SentryD) (inn : Int) (g1 g2 g3 g4 : Nat) : Prop where
  ev : Arr w g1 9 [.string mzGo]
  st : Arr w g2 38 [.string mzA, .int .i64 (-1), .slice (some ⟨g3, 0, none⟩) 1 1, .slice none 0 0, .string mzE, .int .i64 0, .string mzE, .string mzB, .int .i64 inn, .slice (some ⟨g4, 0, none⟩) 1 1, .slice none 0 0, .string mzE, .int .i64 0, .string mzE]
  a : Arr w g3 35 [.int .u8 s0.on, .string s0.name, .string s0.cond]
  b : Arr w g4 35 [.int .u8 2, .string mzA, .string mzE]
theorem ret_model {fn : Func} {p : Tmp} {g : Nat} {w : World} {a : Act} {cs : List Value} {R : Ending → World → Prop} (h : fn.results = #[.cell p 31]) (hp : a.tmps.getD p undef = .pointer (some ⟨g, 0, none⟩))
    (hd : a.defers = []) (hl : cs.length = 6) (hA : Arr w g 31 cs) (hR : R (.returned (.agg cs.toArray)) w) : bodyPost Tryz.prog fn R .ret a w := by
  refine bodyPost_ret ?_ hd hR
  rw [results_cellG h, hp]
  simp only [asAddr, Sem.run_pure, Result.andThen_ok]
  exact run_loadVar_mid w g 0 _ cs _ hA.range Tryz.underlying31 rfl (by rw [hl]; kernel_rfl)
def SmallEnd (w : World) (e : Ending) (w' : World) : Prop := Below w.heap.size w w' ∧ ∃ g1 g2 g3 g4, e = .returned (.agg ((smV g1 g2).cs (smD mzM ⟨1, mzGo, mzE⟩ 0)).toArray) ∧ SmM w' ⟨1, mzGo, mzE⟩ 0 g1 g2 g3 g4 ∧ (w.heap.size ≤ g1 ∧ w.heap.size ≤ g2 ∧ w.heap.size ≤ g3 ∧ w.heap.size ≤ g4) ∧ g2 ≠ g3 ∧ g2 ≠ g4 ∧ g3 ≠ g4 ∧ g1 ≠ g2 ∧ g1 ≠ g3 ∧ g1 ≠ g4
set_option maxHeartbeats 4000000 in
set_option maxRecDepth 100000 in
theorem small_walk (w : World) : Calls Tryz.prog 7 #[] w (SmallEnd w) := by
  generalize hQ : SmallEnd w = Q
  go_enter Tryz.func7, Tryz.ntmps7
  go_wp2_with fail
  rw [← hQ]
  refine ret_model (g := w.heap.size) (cs := (smV (w.heap.size + 1 + 1 + 1 + 1 + 1) (w.heap.size + 1 + 1 + 1 + 1 + 1 + 1)).cs (smD mzM ⟨1, mzGo, mzE⟩ 0)) Tryz.results7 rfl rfl rfl ?_ ?_
  · repeat (first | exact ⟨alloc_at rfl⟩ | refine Arr.alloc ?_ _)
  · refine ⟨?_, w.heap.size + 1 + 1 + 1 + 1 + 1, w.heap.size + 1 + 1 + 1 + 1 + 1 + 1, w.heap.size + 1, w.heap.size + 1 + 1 + 1, rfl, ⟨?_, ?_, ?_, ?_⟩, ?_⟩
    · repeat (first | exact Below.refl _ _ | refine Below.alloc ?_ (by simp; try omega) _)
    · repeat (first | exact ⟨alloc_at (by simp)⟩ | refine Arr.alloc ?_ _)
    · repeat (first | exact ⟨alloc_at (by simp)⟩ | refine Arr.alloc ?_ _)
    · repeat (first | exact ⟨alloc_at (by simp)⟩ | refine Arr.alloc ?_ _)
    · repeat (first | exact ⟨alloc_at (by simp)⟩ | refine Arr.alloc ?_ _)
    · omega
/-- a list laid in a block -/
theorem rec_arr {w : World} {g : Nat} {E : TypeId} {k : Nat} {es : List (List D)} {vs : List (List Value)} (h : Arr w g E vs.flatten) (hg : g < w.heap.size) (hl : vs.length = es.length) (hw : ∀ v ∈ vs, v.length = k) (hwe : ∀ e ∈ es, e.length = k)
    (hm : ∀ j (h1 : j < es.length) (h2 : j < vs.length), MemL false (From 0) w es[j] vs[j]) : Mem false (From 0) w (.list k es) (.slice (some ⟨g, 0, none⟩) es.length es.length) := by
  rw [← hl]
  refine .list k es vs (some ⟨g, 0, none⟩) vs.length g 0 hl (Nat.le_refl _) (fun _ => ⟨rfl, Nat.zero_le _, hg⟩) (fun j v hj => hw v (List.mem_of_getElem? hj)) (fun j e hj => hwe e (List.mem_of_getElem? hj)) (fun j v i u hj hi => ⟨?_, fun h => by cases h⟩) (fun j v e i u d hj he hi hd => ?_)
  · have hj' := lt_of_some hj
    rw [List.getElem?_eq_getElem hj'] at hj
    injection hj with hj
    have hi' := lt_of_some hi
    have hwv := hw v (hj ▸ List.getElem_mem hj')
    have hfl := flat_at vs hw j i hj' (by omega)
    rw [hj, hi] at hfl
    have hlt := lt_of_some hfl
    rw [List.getElem?_eq_getElem hlt] at hfl
    injection hfl with hfl
    rw [Nat.zero_add, ← hfl]
    exact h.cell hlt
  · have hj1 := lt_of_some hj
    have hj2 := lt_of_some he
    have hm' := hm j hj2 hj1
    rw [List.getElem?_eq_getElem hj1] at hj
    rw [List.getElem?_eq_getElem hj2] at he
    injection hj with hj; injection he with he
    subst hj he
    exact hm'.2 i d u hd hi
theorem flat_arr {α : Type} {w : World} {g : Nat} {E : TypeId} {k : Nat} {f : α → List Value} {xs : List α} (h : Arr w g E (xs.map f).flatten) (hg : g < w.heap.size) (hf : ∀ x, (f x).length = k) : Mem false (From 0) w (flatL k f xs) (.slice (some ⟨g, 0, none⟩) xs.length xs.length) := by
  have := rec_arr (es := xs.map fun x => (f x).map D.atom) h hg (by simp) (by
    intro v hv
    obtain ⟨x, -, rfl⟩ := List.mem_map.1 hv
    exact hf x) (by
    intro e he
    obtain ⟨x, -, rfl⟩ := List.mem_map.1 he
    rw [List.length_map]; exact hf x) (fun j h1 h2 => by
    rw [List.getElem_map, List.getElem_map]
    exact atoms_memL false (From 0) w _)
  rw [List.length_map] at this
  exact this
theorem SmM.mem {w : World} {nm : ByteArray} {s0 : SentryD} {inn : Int} {g1 g2 g3 g4 : Nat} (h : SmM w s0 inn g1 g2 g3 g4) : ModelM false (From 0) w (smD nm s0 inn) (smV g1 g2) := by
  have hN : ∀ {α : Type} (k : Nat) (f : α → List Value), Mem false (From 0) w (flatL k f []) (.slice none 0 0) := fun k f =>
    .list k [] [] none 0 0 0 rfl (Nat.le_refl _) (fun h => absurd h (by simp)) (fun j v h => absurd h (by simp)) (fun j e h => absurd h (by simp)) (fun j v i u h => absurd h (by simp)) (fun j v e i u d h => absurd h (by simp))
  have hA : Mem false (From 0) w (senD [s0]) (.slice (some ⟨g3, 0, none⟩) 1 1) := flat_arr (xs := [s0]) h.a h.a.lt (fun _ => rfl)
  have hB : Mem false (From 0) w (senD [⟨2, mzA, mzE⟩]) (.slice (some ⟨g4, 0, none⟩) 1 1) := flat_arr (xs := [(⟨2, mzA, mzE⟩ : SentryD)]) h.b h.b.lt (fun _ => rfl)
  refine ⟨hN 2 AttrD.cs, flat_arr (xs := [mzGo]) h.ev h.ev.lt (fun _ => rfl), ?_, ?_, hN 2 pairC⟩
  · refine rec_arr (es := [_, _]) (vs := [[.string mzA, .int .i64 (-1), .slice (some ⟨g3, 0, none⟩) 1 1, .slice none 0 0, .string mzE, .int .i64 0, .string mzE], [.string mzB, .int .i64 inn, .slice (some ⟨g4, 0, none⟩) 1 1, .slice none 0 0, .string mzE, .int .i64 0, .string mzE]]) h.st h.st.lt rfl (by simp) ?_ ?_
    · intro e he
      simp only [List.mem_cons, List.not_mem_nil, or_false] at he
      rcases he with rfl | rfl <;> rfl
    · intro j h1 h2
      match j, h1 with
      | 0, _ => exact MemL.cons (.atom _) (MemL.cons (.atom _) (MemL.cons hA (MemL.cons (hN 3 SentryD.cs) (MemL.cons (.atom _) (MemL.cons (.atom _) (MemL.cons (.atom _) (MemL.nil _ _ _)))))))
      | 1, _ => exact MemL.cons (.atom _) (MemL.cons (.atom _) (MemL.cons hB (MemL.cons (hN 3 SentryD.cs) (MemL.cons (.atom _) (MemL.cons (.atom _) (MemL.cons (.atom _) (MemL.nil _ _ _)))))))
      | j + 2, h1 => simp at h1; omega
  · exact .list 3 [] [] none 0 0 0 rfl (Nat.le_refl _) (fun h => absurd h (by simp)) (fun j v h => absurd h (by simp)) (fun j e h => absurd h (by simp)) (fun j v i u h => absurd h (by simp)) (fun j v e i u d h => absurd h (by simp))
theorem smD_sml (nm : ByteArray) (s0 : SentryD) (inn : Int) : (smD nm s0 inn).Sml := by
  refine ⟨by simp [smD], by simp [smD], by simp [smD], by simp [smD], by simp [smD], ?_, ?_⟩
  · intro s hs
    simp only [smD, List.mem_cons, List.not_mem_nil, or_false] at hs
    rcases hs with rfl | rfl <;> simp
  · intro s hs; simp [smD] at hs
theorem smD_txt (nm : ByteArray) (s0 : SentryD) (inn : Int) : (smD nm s0 inn).Txt := by
  refine ⟨by simp [smD], ?_, ?_, by simp [smD]⟩
  · intro x hx
    simp only [smD, List.mem_cons, List.not_mem_nil, or_false] at hx
    subst hx; decide
  · intro x hx
    simp only [smD, List.mem_cons, List.not_mem_nil, or_false] at hx
    rcases hx with rfl | rfl
    · show mzA.size ≤ maxLen; decide
    · show mzB.size ≤ maxLen; decide
end Go.Proofs.YtfbbkmdhnkmonaaGreatDoor

namespace Go.Proofs.YtfbbkmdhnkmonaaGreatDoor
open Go.RowKit

theorem readOf_of {s : ByteArray} {t : GT} (h1 : s.size ≤ 16384) (h2 : readG s 20 = some (.ok t)) : readOf s = some t := readOf_some.2 ⟨h1, 20, h2⟩
theorem readOf_no {s : ByteArray} {q : Nat × Int} (h : readG s 20 = some (.error q)) : readOf s = none := by
  cases hr : readOf s with
  | none => rfl
  | some t =>
    obtain ⟨-, f, hf⟩ := readOf_some.1 hr
    have := readG_fun h hf
    cases this
theorem namedB_of {s : ByteArray} {n : Int} (h1 : s.size ≤ 16384) (h2 : readG s 20 = some (.ok (.leaf 5 n s))) : namedB s = true := by
  unfold namedB
  rw [readOf_of h1 h2]
  simp [GT.kd, GT.tx]
theorem nm_m : namedB mzM = true := namedB_of (n := 0) (by decide) (by kernel_rfl)
theorem nm_go : namedB mzGo = true := namedB_of (n := 0) (by decide) (by kernel_rfl)
theorem nm_a : namedB mzA = true := namedB_of (n := 0) (by decide) (by kernel_rfl)
theorem nm_b : namedB mzB = true := namedB_of (n := 0) (by decide) (by kernel_rfl)
theorem rd_x : readOf mzX = some (.leaf 5 0 mzX) := readOf_of (by decide) (by kernel_rfl)
theorem nm_op : namedB mzOp = false := by
  unfold namedB
  rw [readOf_no (q := (4, 170)) (by kernel_rfl)]
theorem mzE_size : mzE.size = 0 := rfl
theorem mzE_emp : mzE = ByteArray.empty := rfl
abbrev pA : Pl := (1, 0, 0)
abbrev pB : Pl := (1, 1, 0)
theorem sm_places (nm : ByteArray) (s0 : SentryD) (inn : Int) : placesL (smD nm s0 inn) = [pA, pB] := rfl
theorem sm_ixA (nm : ByteArray) (s0 : SentryD) (inn : Int) : stageIx (smD nm s0 inn) mzA = 0 := by
  simp [stageIx, ixOf, smD, ba_eq, List.findIdx?_cons]
theorem sm_ixB (nm : ByteArray) (s0 : SentryD) (inn : Int) : stageIx (smD nm s0 inn) mzB = 1 := by
  have h : ¬ mzA = mzB := by decide
  simp [stageIx, ixOf, smD, ba_eq, List.findIdx?_cons, h]
theorem condB_e (md : ModelD) (b : Pl) : condB md b mzE = false := condB_zero rfl
theorem sm_leanA (nm : ByteArray) (c : ByteArray) (inn : Int) (b : Pl) (hc : c.size = 0) : leansB (smD nm ⟨1, mzGo, c⟩ inn) pA b = false := by
  rw [leansB, show senAt (smD nm ⟨1, mzGo, c⟩ inn) pA = some ⟨1, mzGo, c⟩ from rfl]
  simp [leansS, condB_zero hc, smD]
theorem sm_leanA2 (nm : ByteArray) (inn : Int) (b : Pl) : leansB (smD nm ⟨2, mzB, mzE⟩ inn) pA b = turnsB (smD nm ⟨2, mzB, mzE⟩ inn) b 1 true false := by
  rw [leansB, show senAt (smD nm ⟨2, mzB, mzE⟩ inn) pA = some ⟨2, mzB, mzE⟩ from rfl]
  simp only [leansS, condB_e, sm_ixB]
  simp [smD]
theorem sm_leanB (nm : ByteArray) (s0 : SentryD) (b : Pl) : leansB (smD nm s0 0) pB b = (turnsB (smD nm s0 0) b 0 true false || turnsB (smD nm s0 0) b 0 true true) := by
  rw [leansB, show senAt (smD nm s0 0) pB = some ⟨2, mzA, mzE⟩ from rfl]
  simp only [leansS, condB_e, sm_ixA]
  simp [smD]
theorem sm_BA (nm : ByteArray) (s0 : SentryD) : leansB (smD nm s0 0) pB pA = true := by
  rw [sm_leanB]; simp [turnsB]
theorem sm_BB (nm : ByteArray) (s0 : SentryD) : leansB (smD nm s0 0) pB pB = false := by
  rw [sm_leanB]; simp [turnsB]
def smOne : ModelD := smD mzM ⟨1, mzGo, mzE⟩ 0
def smLoop : ModelD := smD mzM ⟨2, mzB, mzE⟩ 0
def smIn : ModelD := smD mzM ⟨1, mzGo, mzE⟩ 1
def smGd : ModelD := smD mzM ⟨1, mzGo, mzX⟩ 0
def smNm : ModelD := smD mzOp ⟨1, mzGo, mzE⟩ 0
theorem sm_order : orderL smOne = [pA, pB] := by
  unfold orderL
  rw [smOne, sm_places]
  have h1 : ∀ b, leansB (smD mzM ⟨1, mzGo, mzE⟩ 0) pA b = false := fun b => sm_leanA _ _ _ _ rfl
  simp [ordL, freeB, h1, sm_BA, sm_BB, List.findIdx?_cons]
theorem sm_orderLoop : orderL smLoop = [] := by
  unfold orderL
  rw [smLoop, sm_places]
  have h1 : leansB (smD mzM ⟨2, mzB, mzE⟩ 0) pA pB = true := by rw [sm_leanA2]; simp [turnsB]
  simp [ordL, freeB, h1, sm_BA, List.findIdx?_cons]
theorem sm_few (nm : ByteArray) (s0 : SentryD) (inn : Int) : ¬ tooMany (smD nm s0 inn) := by
  simp [tooMany, smD, manyN]
theorem sm_rows : rowB ([mzGo] ++ [mzA, mzB]) = true := by
  simp [rowB, nm_go, nm_a, nm_b]
  decide
theorem sm_row0 : rowB [] = true := by simp [rowB]
theorem sm_staged0 (nm : ByteArray) (s0 : SentryD) : (List.range (smD nm s0 0).stages.length).all (fun n => match (smD nm s0 0).stages[n]? with | none => true | some s => stagedB (smD nm s0 0) n s) = true := by
  simp [smD, List.range, List.range.loop, stagedB, mzE_emp]
theorem sm_staged1 (nm : ByteArray) (s0 : SentryD) : (List.range (smD nm s0 1).stages.length).all (fun n => match (smD nm s0 1).stages[n]? with | none => true | some s => stagedB (smD nm s0 1) n s) = false := by
  simp [smD, List.range, List.range.loop, stagedB, mzE_emp]
theorem truthB_e (md : ModelD) : truthB md mzE = true := by
  unfold truthB; rw [if_pos mzE_size]
theorem sm_senGo (nm : ByteArray) (s0 : SentryD) (inn : Int) : sentryB (smD nm s0 inn) ⟨1, mzGo, mzE⟩ = true := by
  simp [sentryB, truthB_e, eventB, hasB, smD]
theorem sm_senA (nm : ByteArray) (s0 : SentryD) (inn : Int) : sentryB (smD nm s0 inn) ⟨2, mzA, mzE⟩ = true := by
  simp [sentryB, truthB_e, sm_ixA]
theorem sm_senB (nm : ByteArray) (s0 : SentryD) (inn : Int) : sentryB (smD nm s0 inn) ⟨2, mzB, mzE⟩ = true := by
  simp [sentryB, truthB_e, sm_ixB]
theorem sm_senX (nm : ByteArray) (s0 : SentryD) (inn : Int) : sentryB (smD nm s0 inn) ⟨1, mzGo, mzX⟩ = false := by
  have h : truthB (smD nm s0 inn) mzX = false := by
    unfold truthB
    rw [if_neg (by decide), rd_x]
    simp [judg, attrIx, ixOf, smD]
  simp [sentryB, h]
theorem sm_built (nm : ByteArray) (s0 : SentryD) (inn : Int) : builtB (smD nm s0 inn) = ((List.range (smD nm s0 inn).stages.length).all (fun n => match (smD nm s0 inn).stages[n]? with | none => true | some s => stagedB (smD nm s0 inn) n s) && sentryB (smD nm s0 inn) s0) := by
  have h1 : rowB ((smD nm s0 inn).events ++ (smD nm s0 inn).stages.map StageD.name) = true := sm_rows
  have h2 : rowB ((smD nm s0 inn).attrs.map AttrD.name) = true := sm_row0
  have h3 : rowB ((smD nm s0 inn).stones.map StoneD.name) = true := sm_row0
  have h4 : ((smD nm s0 inn).stages.all fun s => s.opens.all (sentryB (smD nm s0 inn)) && s.closes.all (sentryB (smD nm s0 inn))) = sentryB (smD nm s0 inn) s0 := by
    show ([s0].all (sentryB (smD nm s0 inn)) && [].all (sentryB (smD nm s0 inn)) && ([⟨2, mzA, mzE⟩].all (sentryB (smD nm s0 inn)) && [].all (sentryB (smD nm s0 inn)) && true)) = _
    simp [sm_senA]
  have h5 : (smD nm s0 inn).attrs.any (fun a => decide (a.kind < 1 ∨ 3 < a.kind)) = false := rfl
  have h6 : ((smD nm s0 inn).stones.all fun s => s.done.all (sentryB (smD nm s0 inn)) && s.undo.all (sentryB (smD nm s0 inn))) = true := rfl
  have h7 : (smD nm s0 inn).apart.any (fun p => !namedB p.1 || !namedB p.2 || p.1.toList == p.2.toList) = false := rfl
  unfold builtB
  rw [h1, h2, h3, h4, h5, h6, h7]
  simp only [Bool.true_and, Bool.and_true, Bool.not_false]
  rfl
theorem ck_one : checkE smOne = 0 := by
  unfold checkE
  rw [if_neg (by rw [show smOne.name = mzM from rfl, nm_m]; simp), if_neg (by exact sm_few _ _ _), if_neg (by rw [smOne, sm_built, sm_staged0, sm_senGo]; simp), if_neg (by rw [sm_order]; rw [smOne, sm_places]; simp)]
theorem ck_loop : checkE smLoop = 181 := by
  unfold checkE
  rw [if_neg (by rw [show smLoop.name = mzM from rfl, nm_m]; simp), if_neg (by exact sm_few _ _ _), if_neg (by rw [smLoop, sm_built, sm_staged0, sm_senB]; simp), if_pos (by rw [sm_orderLoop]; rw [smLoop, sm_places]; simp)]
theorem ck_in : checkE smIn = 180 := by
  unfold checkE
  rw [if_neg (by rw [show smIn.name = mzM from rfl, nm_m]; simp), if_neg (by exact sm_few _ _ _), if_pos (by rw [smIn, sm_built, sm_staged1]; simp)]
theorem ck_gd : checkE smGd = 180 := by
  unfold checkE
  rw [if_neg (by rw [show smGd.name = mzM from rfl, nm_m]; simp), if_neg (by exact sm_few _ _ _), if_pos (by rw [smGd, sm_built, sm_senX]; simp)]
theorem ck_nm : checkE smNm = 5 := by
  unfold checkE
  rw [if_pos (by rw [show smNm.name = mzOp from rfl, nm_op])]
theorem la_one1 : leansA smOne pB pA = (true, 0) := by
  rw [leansA, if_pos ck_one, if_pos (by rw [smOne, sm_places]; simp), smOne, sm_BA]
theorem la_one2 : leansA smOne pA pB = (false, 0) := by
  rw [leansA, if_pos ck_one, if_pos (by rw [smOne, sm_places]; simp), smOne, sm_leanA _ _ _ _ rfl]
theorem la_one3 : leansA smOne (1, 2, 0) pA = (false, 2) := by
  rw [leansA, if_pos ck_one, if_neg (by rw [smOne, sm_places]; simp)]
theorem oa_one : ordA smOne = [pA, pB] := by rw [ordA, if_pos ck_one, sm_order]
end Go.Proofs.YtfbbkmdhnkmonaaGreatDoor

namespace Go.Proofs.YtfbbkmdhnkmonaaGreatDoor
open Go.RowKit

set_option maxHeartbeats 8000000 in
set_option maxRecDepth 100000 in
theorem alive_walk (w : World) (hv : GRng w) : Calls Tryz.prog 8 #[] w (fun e w' => e = .returned (.bool true) ∧ Below w.heap.size w w') := by
  have HS := Lib.hid (small_walk w)
  have HV := Lib.hid hv
  have e1 : ∀ W, (binOp .eql 33 (.agg #[.int .i64 1, .int .i64 0, .int .i64 0]) (.agg #[.int .i64 1, .int .i64 0, .int .i64 0])).run Tryz.prog W = .ok (.bool true) W := fun W => eqPl.1 pA pA W
  have e2 : ∀ W, (binOp .eql 33 (.agg #[.int .i64 1, .int .i64 1, .int .i64 0]) (.agg #[.int .i64 1, .int .i64 1, .int .i64 0])).run Tryz.prog W = .ok (.bool true) W := fun W => eqPl.1 pB pB W
  clear hv
  go_enter Tryz.func8, Tryz.ntmps8
  go_wp2_with fail
  refine HS.out.mono ?_
  rintro e w1 ⟨hb1, g1, g2, g3, g4, rfl, hS, -⟩
  have HB1 := Lib.hid hb1
  have HO := Lib.hid (order_walk smOne (smV g1 g2) w1 (smD_sml _ _ _) (smD_txt _ _ _) hS.mem (HV.out.below hb1))
  clear hb1 hS HS
  go_wp2_with fail
  refine HO.out.mono ?_
  rintro e w2 ⟨hb2, va, vc, rfl, hm⟩
  rw [oa_one] at hm ⊢
  rw [ck_one]
  obtain ⟨_, _, b, off, hvv, -, hC⟩ := flat_open hm
  injection hvv with q1 q2 q3
  subst q1 q3
  obtain ⟨rfl, -, -⟩ := hC.at0 (by simp)
  have a0 : w2.cell? ⟨b, off, none⟩ = some (.int .i64 1) := hC.cell 0 (by simp) 0 _ rfl
  have a1 : w2.cell? ⟨b, off + 1, none⟩ = some (.int .i64 0) := by have := hC.cell 0 (by simp) 1 _ rfl; simpa using this
  have a2 : w2.cell? ⟨b, off + 2, none⟩ = some (.int .i64 0) := by have := hC.cell 0 (by simp) 2 _ rfl; simpa using this
  have b0 : w2.cell? ⟨b, off + 3, none⟩ = some (.int .i64 1) := by have := hC.cell 1 (by simp) 0 _ rfl; simpa using this
  have b1 : w2.cell? ⟨b, off + 3 + 1, none⟩ = some (.int .i64 1) := by have := hC.cell 1 (by simp) 1 _ rfl; simpa using this
  have b2 : w2.cell? ⟨b, off + 3 + 2, none⟩ = some (.int .i64 0) := by have := hC.cell 1 (by simp) 2 _ rfl; simpa using this
  have HBB := Lib.hid (HB1.out.trans (hb2.mono HB1.out.size))
  clear hb2 hm hC HO q2
  simp only [List.length_cons, List.length_nil, Nat.zero_add, Nat.reduceAdd]
  go_wp2_with fail
  go_ret
  exact ⟨rfl, HBB.out⟩
end Go.Proofs.YtfbbkmdhnkmonaaGreatDoor
