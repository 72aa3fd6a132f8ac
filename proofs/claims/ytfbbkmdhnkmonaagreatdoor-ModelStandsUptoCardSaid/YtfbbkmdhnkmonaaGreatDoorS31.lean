/- package model: leans. Written by wip/moleangen.py. -/
import Derived.Deep.DeepCutAuto
import Derived.Deep.CutBlock
import Derived.Test.YtfbbkmdhnkmonaaGreatDoorS16
namespace Go.Proofs.YtfbbkmdhnkmonaaGreatDoor
open Go.RowKit

set_option maxHeartbeats 8000000 in
set_option maxRecDepth 100000 in
theorem leans2_walk (md : ModelD) (v : ModelV) (mb : Nat) (b : Pl) (pb : Nat) (s : ByteArray) (W : World) (hz : md.Sml) (hX : BoxM md v mb b pb W) (hM : ModelM false (From 0) W md v) :
    Calls Tryz.prog 41 #[.string s, .pointer (some ⟨pb, 0, none⟩), .pointer (some ⟨mb, 0, none⟩)] W (fun e w' => e = .returned (.bool (decide (b.2.1 = stoneIx md s))) ∧ Below W.heap.size W w') := by
  obtain ⟨i, hix⟩ : ∃ i, stoneIx md s = i := ⟨_, rfl⟩
  have HSt := Lib.hid (fun W' (h : Below W.heap.size W W') => modelStone md v s W' hz.stones (hM.grow h))
  simp only [hix] at HSt
  rw [hix]
  obtain ⟨b0, b1, b2⟩ := b
  have HQQ : Hid ((b1 == i) = decide (b1 = i)) := by show _ = _; rw [Bool.eq_iff_iff]; simp
  have HSW : Hid (∀ W', Below W.heap.size W W' → (Below W.heap.size W W' ∧ W'.cell? ⟨mb, 0, none⟩ = some (.string md.name) ∧ W'.cell? ⟨mb, 1, none⟩ = some (.slice v.a1 md.attrs.length v.c1) ∧ W'.cell? ⟨mb, 2, none⟩ = some (.slice v.a2 md.events.length v.c2) ∧ W'.cell? ⟨mb, 3, none⟩ = some (.slice v.a3 md.stages.length v.c3) ∧
      W'.cell? ⟨mb, 4, none⟩ = some (.slice v.a4 md.stones.length v.c4) ∧ W'.cell? ⟨mb, 5, none⟩ = some (.slice v.a5 md.apart.length v.c5) ∧ W'.cell? ⟨pb, 1, none⟩ = some (.int .i64 b1))) := fun W' hb =>
    have h := hX.below hb
    ⟨hb, h.m0, h.m1, h.m2, h.m3, h.m4, h.m5, h.p1⟩
  have hq0 := (Below.refl W.heap.size W).drew
  clear hX hM hz hix
  go_enter Tryz.func41, Tryz.ntmps41
  go_upto_region 1 with fail
  go_region_held3 (fun W' => Below W.heap.size W W' ∧ W'.cell? ⟨mb, 0, none⟩ = some (.string md.name) ∧ W'.cell? ⟨mb, 1, none⟩ = some (.slice v.a1 md.attrs.length v.c1) ∧ W'.cell? ⟨mb, 2, none⟩ = some (.slice v.a2 md.events.length v.c2) ∧ W'.cell? ⟨mb, 3, none⟩ = some (.slice v.a3 md.stages.length v.c3) ∧
      W'.cell? ⟨mb, 4, none⟩ = some (.slice v.a4 md.stones.length v.c4) ∧ W'.cell? ⟨mb, 5, none⟩ = some (.slice v.a5 md.apart.length v.c5) ∧ W'.cell? ⟨pb, 1, none⟩ = some (.int .i64 b1))
    (first | exact HSW.out _ (Below.refl _ _) | exact HSW.out _ hq0 | exact HSW.out _ hq1)
    (first
      | (go_at_call 36; refine (HSt.out _ hq0).mono ?_; rintro e W1 ⟨rfl, hb⟩; have hq1 := hq0.trans (hb.mono hq0.size); clear hb))
  have HQ := Lib.hid hq1
  clear hq0 hq1
  go_wp2_with fail
  go_ret
  exact ⟨ret_bool HQQ.out, HQ.out⟩
/-- what a sentry leans on by what it waits for -/
noncomputable def onB (md : ModelD) (b : Pl) (s : SentryD) : Bool :=
  (decide (s.on = 2 ∨ s.on = 3) && turnsB md b (stageIx md s.name) (decide (s.on = 2)) (decide (s.on = 3))) || (decide (s.on = 4 ∨ s.on = 5) && (decide (b.1 = s.on - 1) && decide (b.2.1 = stoneIx md s.name)))
/-- .. by the stage that it is of -/
def inB (md : ModelD) (a b : Pl) : Bool := decide (a.1 = 1) && match md.stages[a.2.1.toNat]? with
  | none => false
  | some x => decide (0 ≤ x.inn) && turnsB md b x.inn true true
theorem leansS_eq (md : ModelD) (a b : Pl) (s : SentryD) : leansS md a b s = (onB md b s || inB md a b || condB md b s.cond) := rfl
theorem any_same {l l' : List ByteArray} (h : ∀ s, s ∈ l ↔ s ∈ l') (p : ByteArray → Bool) : l.any p = l'.any p := by
  rw [Bool.eq_iff_iff, List.any_eq_true, List.any_eq_true]
  exact ⟨fun ⟨x, hx, hp⟩ => ⟨x, (h x).1 hx, hp⟩, fun ⟨x, hx, hp⟩ => ⟨x, (h x).2 hx, hp⟩⟩
theorem condB_zero {md : ModelD} {b : Pl} {c : ByteArray} (h : c.size = 0) : condB md b c = false := if_pos h
theorem condB_some {md : ModelD} {b : Pl} {c : ByteArray} {t : GT} (h0 : c.size ≠ 0) (h : readOf c = some t) : condB md b c = ((namesOf 6 t).any (fun n => turnsB md b (stageIx md n) true true) || (decide (2 < b.1) && (namesOf 7 t).any (fun n => decide (b.2.1 = stoneIx md n)))) := by
  unfold condB; rw [if_neg h0, h]
set_option maxHeartbeats 32000000 in
set_option maxRecDepth 100000 in
theorem leans_walk (md : ModelD) (v : ModelV) (a b : Pl) (s : SentryD) (w : World) (hz : md.Sml) (hi : InOk md) (ha : a.1 = 1 → 0 ≤ a.2.1 ∧ a.2.1 < md.stages.length) (hc : s.cond.size ≠ 0 → ∃ t, readOf s.cond = some t) (hM : ModelM false (From 0) w md v) (hv : GRng w) :
    Calls Tryz.prog 18 #[.agg (v.cs md).toArray, plV a, plV b, senV s] w (fun e w' => e = .returned (.bool (leansS md a b s)) ∧ Below w.heap.size w w') := by
  rw [leansS_eq]
  obtain ⟨va1, vc1, va2, vc2, va3, vc3, va4, vc4, va5, vc5⟩ := v
  obtain ⟨on, name, cond⟩ := s
  obtain ⟨a0, a1, a2⟩ := a
  obtain ⟨b0, b1, b2⟩ := b
  simp only [plV, senV]
  obtain ⟨wa, hwa⟩ : ∃ wa, w.alloc (.cells (ModelV.cs ⟨va1, vc1, va2, vc2, va3, vc3, va4, vc4, va5, vc5⟩ md).toArray 31) = wa := ⟨_, rfl⟩
  obtain ⟨w1, hw1⟩ : ∃ w1, ((wa.alloc (.cells #[.int .i64 a0, .int .i64 a1, .int .i64 a2] 33)).alloc (.cells #[.int .i64 b0, .int .i64 b1, .int .i64 b2] 33)).alloc (.cells #[.int .u8 on, .string name, .string cond] 35) = w1 := ⟨_, rfl⟩
  have hza : wa.heap.size = w.heap.size + 1 := by rw [← hwa, size_alloc]
  have hba : Below w.heap.size w wa := hwa ▸ (Below.refl _ _).alloc (Nat.le_refl _) _
  have hb1 : Below w.heap.size w w1 := hw1 ▸ ((hba.alloc (by omega) _).alloc (by rw [size_alloc]; omega) _).alloc (by rw [size_alloc, size_alloc]; omega) _
  have hxm : Arr w1 w.heap.size 31 (ModelV.cs ⟨va1, vc1, va2, vc2, va3, vc3, va4, vc4, va5, vc5⟩ md) := hw1 ▸ (((show Arr wa _ _ _ from hwa ▸ Arr.new w (ModelV.cs ⟨va1, vc1, va2, vc2, va3, vc3, va4, vc4, va5, vc5⟩ md) _).alloc _).alloc _).alloc _
  have hxa : Arr w1 (w.heap.size + 1) 33 [.int .i64 a0, .int .i64 a1, .int .i64 a2] := hw1 ▸ ((show Arr _ (w.heap.size + 1) _ _ from ⟨alloc_at (by rw [hza])⟩).alloc _).alloc _
  have hxb : Arr w1 (w.heap.size + 1 + 1) 33 [.int .i64 b0, .int .i64 b1, .int .i64 b2] := hw1 ▸ (show Arr _ (w.heap.size + 1 + 1) _ _ from ⟨alloc_at (by rw [size_alloc, hza])⟩).alloc _
  have hxs : Arr w1 (w.heap.size + 1 + 1 + 1) 35 [.int .u8 on, .string name, .string cond] := hw1 ▸ ⟨alloc_at (by rw [size_alloc, size_alloc, hza])⟩
  have HM := Lib.hid (fun W (hb : Below w1.heap.size w1 W) => hM.grow (hb1.trans (hb.mono hb1.size)))
  have HV := Lib.hid (fun W (hb : Below w1.heap.size w1 W) => hv.below (hb1.trans (hb.mono hb1.size)))
  have HB1 := Lib.hid hb1
  have HZ := Lib.hid hz
  have HI := Lib.hid hi
  have HA := Lib.hid ha
  have HCD := Lib.hid hc
  have HSW : Hid (∀ W', Below w1.heap.size w1 W' → (Below w1.heap.size w1 W' ∧ W'.cell? ⟨w.heap.size, 0, none⟩ = some (.string md.name) ∧ W'.cell? ⟨w.heap.size, 1, none⟩ = some (.slice va1 md.attrs.length vc1) ∧ W'.cell? ⟨w.heap.size, 2, none⟩ = some (.slice va2 md.events.length vc2) ∧ W'.cell? ⟨w.heap.size, 3, none⟩ = some (.slice va3 md.stages.length vc3) ∧
      W'.cell? ⟨w.heap.size, 4, none⟩ = some (.slice va4 md.stones.length vc4) ∧ W'.cell? ⟨w.heap.size, 5, none⟩ = some (.slice va5 md.apart.length vc5) ∧ W'.cell? ⟨w.heap.size + 1, 0, none⟩ = some (.int .i64 a0) ∧ W'.cell? ⟨w.heap.size + 1, 1, none⟩ = some (.int .i64 a1) ∧
      W'.cell? ⟨w.heap.size + 1 + 1, 0, none⟩ = some (.int .i64 b0) ∧ W'.cell? ⟨w.heap.size + 1 + 1, 1, none⟩ = some (.int .i64 b1) ∧ W'.cell? ⟨w.heap.size + 1 + 1, 2, none⟩ = some (.int .i64 b2) ∧ W'.cell? ⟨w.heap.size + 1 + 1 + 1, 0, none⟩ = some (.int .u8 on) ∧ W'.cell? ⟨w.heap.size + 1 + 1 + 1, 1, none⟩ = some (.string name) ∧ W'.cell? ⟨w.heap.size + 1 + 1 + 1, 2, none⟩ = some (.string cond))) := fun W' hb => by
    obtain ⟨m0, m1, m2, m3, m4, m5⟩ := box6 hxm hb
    exact ⟨hb, m0, m1, m2, m3, m4, m5, cellBelow2 hb (hxa.cell (j := 0) (by simp)), cellBelow2 hb (hxa.cell (j := 1) (by simp)), cellBelow2 hb (hxb.cell (j := 0) (by simp)), cellBelow2 hb (hxb.cell (j := 1) (by simp)), cellBelow2 hb (hxb.cell (j := 2) (by simp)), cellBelow2 hb (hxs.cell (j := 0) (by simp)), cellBelow2 hb (hxs.cell (j := 1) (by simp)), cellBelow2 hb (hxs.cell (j := 2) (by simp))⟩
  have HWA := Lib.hid hwa
  have HW1 := Lib.hid hw1
  obtain ⟨i1, hi1⟩ : ∃ i, stageIx md name = i := ⟨_, rfl⟩
  obtain ⟨i2, hi2⟩ : ∃ i, stoneIx md name = i := ⟨_, rfl⟩
  have hile := stageIx_le md name
  rw [hi1] at hile
  have HSt := Lib.hid (fun W' (h : Below w1.heap.size w1 W') => modelStage md ⟨va1, vc1, va2, vc2, va3, vc3, va4, vc4, va5, vc5⟩ name W' hz.stages (HM.out W' h))
  have HSo := Lib.hid (fun W' (h : Below w1.heap.size w1 W') => modelStone md ⟨va1, vc1, va2, vc2, va3, vc3, va4, vc4, va5, vc5⟩ name W' hz.stones (HM.out W' h))
  simp only [hi1] at HSt
  simp only [hi2] at HSo
  have HTu := Lib.hid (fun i o c W' (hl : -1 ≤ i ∧ i < (md.stages.length : Int)) (h : Below w1.heap.size w1 W') => turns_walk md ⟨va1, vc1, va2, vc2, va3, vc3, va4, vc4, va5, vc5⟩ (b0, b1, b2) i o c W' hi hl (HM.out W' h))
  simp only [plV] at HTu
  obtain ⟨Q1, hQ1⟩ : ∃ q, onB md (b0, b1, b2) ⟨on, name, cond⟩ = q := ⟨_, rfl⟩
  obtain ⟨Q2, hQ2⟩ : ∃ q, inB md (a0, a1, a2) (b0, b1, b2) = q := ⟨_, rfl⟩
  obtain ⟨Q3, hQ3⟩ : ∃ q, condB md (b0, b1, b2) cond = q := ⟨_, rfl⟩
  rw [hQ1, hQ2, hQ3]
  simp only [onB, hi1, hi2] at hQ1
  have HQ1 := Lib.hid hQ1
  have HQ2 := Lib.hid hQ2
  have HQ3 := Lib.hid hQ3
  have HIL := Lib.hid hile
  obtain ⟨hbx, m0, m1, m2, m3, m4, m5, p0, p1, r0, r1, r2, s0, s1, s2⟩ := HSW.out w1 (Below.refl _ _)
  clear hM hv hz hi ha hc hba hb1 hxm hxa hxb hxs hwa hw1 hi1 hi2 hile hQ1 hQ2 hQ3 hbx hza
  go_enter Tryz.func18, Tryz.ntmps18
  go_upto_region 1 with fail
  rw [HWA.out, HW1.out]
  go_upto_block 0 with fail
  go_cut [] (fun wx => Hid (Below w1.heap.size w1 wx) ∧ Hid (Q1 = false))
  case first =>
    have hq0 := (Below.refl w1.heap.size w1).drew
    have : on = 2 ∨ on = 3 ∨ on = 4 ∨ on = 5 ∨ (on ≠ 2 ∧ on ≠ 3 ∧ on ≠ 4 ∧ on ≠ 5) := by omega
    rcases this with rfl | rfl | rfl | rfl | ⟨n2, n3, n4, n5⟩
    · obtain ⟨r, hr⟩ : ∃ r, turnsB md (b0, b1, b2) i1 true false = r := ⟨_, rfl⟩
      have HT := Lib.hid (fun W' (h : Below w1.heap.size w1 W') => HTu.out i1 true false W' HIL.out h)
      simp only [hr] at HT
      have HR : Hid (r = Q1) := by show _ = _; rw [← HQ1.out, ← hr]; simp
      clear hr HTu
      go_upto_region 4 with fail
      go_region_held3 (fun W' => Below w1.heap.size w1 W' ∧ W'.cell? ⟨w.heap.size, 0, none⟩ = some (.string md.name) ∧ W'.cell? ⟨w.heap.size, 1, none⟩ = some (.slice va1 md.attrs.length vc1) ∧ W'.cell? ⟨w.heap.size, 2, none⟩ = some (.slice va2 md.events.length vc2) ∧ W'.cell? ⟨w.heap.size, 3, none⟩ = some (.slice va3 md.stages.length vc3) ∧
      W'.cell? ⟨w.heap.size, 4, none⟩ = some (.slice va4 md.stones.length vc4) ∧ W'.cell? ⟨w.heap.size, 5, none⟩ = some (.slice va5 md.apart.length vc5) ∧ W'.cell? ⟨w.heap.size + 1, 0, none⟩ = some (.int .i64 a0) ∧ W'.cell? ⟨w.heap.size + 1, 1, none⟩ = some (.int .i64 a1) ∧
      W'.cell? ⟨w.heap.size + 1 + 1, 0, none⟩ = some (.int .i64 b0) ∧ W'.cell? ⟨w.heap.size + 1 + 1, 1, none⟩ = some (.int .i64 b1) ∧ W'.cell? ⟨w.heap.size + 1 + 1, 2, none⟩ = some (.int .i64 b2) ∧ W'.cell? ⟨w.heap.size + 1 + 1 + 1, 0, none⟩ = some (.int .u8 2) ∧ W'.cell? ⟨w.heap.size + 1 + 1 + 1, 1, none⟩ = some (.string name) ∧ W'.cell? ⟨w.heap.size + 1 + 1 + 1, 2, none⟩ = some (.string cond))
        (first | exact HSW.out _ (Below.refl _ _) | exact HSW.out _ hq0 | exact HSW.out _ hq1 | exact HSW.out _ hq2)
        (first
          | (go_at_call 35; refine (HSt.out _ hq0).mono ?_; rintro e W1 ⟨rfl, hb⟩; have hq1 := hq0.trans (hb.mono hq0.size); clear hb HSt)
          | (go_at_call 34; refine (HT.out _ hq1).mono ?_; rintro e W2 ⟨rfl, hb⟩; have hq2 := hq1.trans (hb.mono hq1.size); clear hb))
      have HQ := Lib.hid hq2
      clear hq0 hq1 hq2 HT m0 m1 m2 m3 m4 m5 p0 p1 r0 r1 r2 s0 s1 s2
      cases r with
      | true =>
        go_wp2_with fail
        go_ret
        exact ⟨ret_bool (by rw [← HR.out]; simp), HB1.out.trans (HQ.out.mono HB1.out.size)⟩
      | false =>
        go_wp2_with fail
        go_meet
        exact ⟨HQ.out, HR.out.symm⟩
    · obtain ⟨r, hr⟩ : ∃ r, turnsB md (b0, b1, b2) i1 false true = r := ⟨_, rfl⟩
      have HT := Lib.hid (fun W' (h : Below w1.heap.size w1 W') => HTu.out i1 false true W' HIL.out h)
      simp only [hr] at HT
      have HR : Hid (r = Q1) := by show _ = _; rw [← HQ1.out, ← hr]; simp
      clear hr HTu
      go_upto_region 4 with fail
      go_region_held3 (fun W' => Below w1.heap.size w1 W' ∧ W'.cell? ⟨w.heap.size, 0, none⟩ = some (.string md.name) ∧ W'.cell? ⟨w.heap.size, 1, none⟩ = some (.slice va1 md.attrs.length vc1) ∧ W'.cell? ⟨w.heap.size, 2, none⟩ = some (.slice va2 md.events.length vc2) ∧ W'.cell? ⟨w.heap.size, 3, none⟩ = some (.slice va3 md.stages.length vc3) ∧
      W'.cell? ⟨w.heap.size, 4, none⟩ = some (.slice va4 md.stones.length vc4) ∧ W'.cell? ⟨w.heap.size, 5, none⟩ = some (.slice va5 md.apart.length vc5) ∧ W'.cell? ⟨w.heap.size + 1, 0, none⟩ = some (.int .i64 a0) ∧ W'.cell? ⟨w.heap.size + 1, 1, none⟩ = some (.int .i64 a1) ∧
      W'.cell? ⟨w.heap.size + 1 + 1, 0, none⟩ = some (.int .i64 b0) ∧ W'.cell? ⟨w.heap.size + 1 + 1, 1, none⟩ = some (.int .i64 b1) ∧ W'.cell? ⟨w.heap.size + 1 + 1, 2, none⟩ = some (.int .i64 b2) ∧ W'.cell? ⟨w.heap.size + 1 + 1 + 1, 0, none⟩ = some (.int .u8 3) ∧ W'.cell? ⟨w.heap.size + 1 + 1 + 1, 1, none⟩ = some (.string name) ∧ W'.cell? ⟨w.heap.size + 1 + 1 + 1, 2, none⟩ = some (.string cond))
        (first | exact HSW.out _ (Below.refl _ _) | exact HSW.out _ hq0 | exact HSW.out _ hq1 | exact HSW.out _ hq2)
        (first
          | (go_at_call 35; refine (HSt.out _ hq0).mono ?_; rintro e W1 ⟨rfl, hb⟩; have hq1 := hq0.trans (hb.mono hq0.size); clear hb HSt)
          | (go_at_call 34; refine (HT.out _ hq1).mono ?_; rintro e W2 ⟨rfl, hb⟩; have hq2 := hq1.trans (hb.mono hq1.size); clear hb))
      have HQ := Lib.hid hq2
      clear hq0 hq1 hq2 HT m0 m1 m2 m3 m4 m5 p0 p1 r0 r1 r2 s0 s1 s2
      cases r with
      | true =>
        go_wp2_with fail
        go_ret
        exact ⟨ret_bool (by rw [← HR.out]; simp), HB1.out.trans (HQ.out.mono HB1.out.size)⟩
      | false =>
        go_wp2_with fail
        go_meet
        exact ⟨HQ.out, HR.out.symm⟩
    · by_cases hb0 : b0 = 3
      · subst hb0
        have HR : Hid (decide (b1 = i2) = Q1) := by show _ = _; rw [← HQ1.out]; simp
        have HEB : Hid ((b1 == i2) = decide (b1 = i2)) := by show _ = _; rw [Bool.eq_iff_iff]; simp
        clear HTu HSt
        go_upto_region 8 with fail
        go_region_held3 (fun W' => Below w1.heap.size w1 W' ∧ W'.cell? ⟨w.heap.size, 0, none⟩ = some (.string md.name) ∧ W'.cell? ⟨w.heap.size, 1, none⟩ = some (.slice va1 md.attrs.length vc1) ∧ W'.cell? ⟨w.heap.size, 2, none⟩ = some (.slice va2 md.events.length vc2) ∧ W'.cell? ⟨w.heap.size, 3, none⟩ = some (.slice va3 md.stages.length vc3) ∧
      W'.cell? ⟨w.heap.size, 4, none⟩ = some (.slice va4 md.stones.length vc4) ∧ W'.cell? ⟨w.heap.size, 5, none⟩ = some (.slice va5 md.apart.length vc5) ∧ W'.cell? ⟨w.heap.size + 1, 0, none⟩ = some (.int .i64 a0) ∧ W'.cell? ⟨w.heap.size + 1, 1, none⟩ = some (.int .i64 a1) ∧
      W'.cell? ⟨w.heap.size + 1 + 1, 0, none⟩ = some (.int .i64 3) ∧ W'.cell? ⟨w.heap.size + 1 + 1, 1, none⟩ = some (.int .i64 b1) ∧ W'.cell? ⟨w.heap.size + 1 + 1, 2, none⟩ = some (.int .i64 b2) ∧ W'.cell? ⟨w.heap.size + 1 + 1 + 1, 0, none⟩ = some (.int .u8 4) ∧ W'.cell? ⟨w.heap.size + 1 + 1 + 1, 1, none⟩ = some (.string name) ∧ W'.cell? ⟨w.heap.size + 1 + 1 + 1, 2, none⟩ = some (.string cond))
          (first | exact HSW.out _ (Below.refl _ _) | exact HSW.out _ hq0 | exact HSW.out _ hq1)
          (first
            | (go_at_call 36; refine (HSo.out _ hq0).mono ?_; rintro e W1 ⟨rfl, hb⟩; have hq1 := hq0.trans (hb.mono hq0.size); clear hb HSo))
        have HQ := Lib.hid hq1
        clear hq0 hq1 m0 m1 m2 m3 m4 m5 p0 p1 r0 r1 r2 s0 s1 s2
        by_cases hb1 : b1 = i2
        · have e1 : (b1 == i2) = true := by simpa using hb1
          have HR2 : Hid (true = Q1) := by show _ = _; rw [← HR.out]; simp [hb1]
          clear hb1
          go_wp2_with fail
          go_ret
          exact ⟨ret_bool (by rw [← HR2.out]; simp), HB1.out.trans (HQ.out.mono HB1.out.size)⟩
        · have e1 : (b1 == i2) = false := by simpa using hb1
          have HR2 : Hid (false = Q1) := by show _ = _; rw [← HR.out]; simp [hb1]
          clear hb1
          go_wp2_with fail
          go_meet
          exact ⟨HQ.out, HR2.out.symm⟩
      · have HR2 : Hid (false = Q1) := by show _ = _; rw [← HQ1.out]; simp [hb0]
        have e1 : (b0 == 3) = false := by simpa using hb0
        clear HTu HSt HSo hb0
        go_upto_region 8 with fail
        go_quiet (fail)
        go_wp2_with fail
        go_meet
        exact ⟨below_drewN (Below.refl _ _) _, HR2.out.symm⟩
    · by_cases hb0 : b0 = 4
      · subst hb0
        have HR : Hid (decide (b1 = i2) = Q1) := by show _ = _; rw [← HQ1.out]; simp
        have HEB : Hid ((b1 == i2) = decide (b1 = i2)) := by show _ = _; rw [Bool.eq_iff_iff]; simp
        clear HTu HSt
        go_upto_region 8 with fail
        go_region_held3 (fun W' => Below w1.heap.size w1 W' ∧ W'.cell? ⟨w.heap.size, 0, none⟩ = some (.string md.name) ∧ W'.cell? ⟨w.heap.size, 1, none⟩ = some (.slice va1 md.attrs.length vc1) ∧ W'.cell? ⟨w.heap.size, 2, none⟩ = some (.slice va2 md.events.length vc2) ∧ W'.cell? ⟨w.heap.size, 3, none⟩ = some (.slice va3 md.stages.length vc3) ∧
      W'.cell? ⟨w.heap.size, 4, none⟩ = some (.slice va4 md.stones.length vc4) ∧ W'.cell? ⟨w.heap.size, 5, none⟩ = some (.slice va5 md.apart.length vc5) ∧ W'.cell? ⟨w.heap.size + 1, 0, none⟩ = some (.int .i64 a0) ∧ W'.cell? ⟨w.heap.size + 1, 1, none⟩ = some (.int .i64 a1) ∧
      W'.cell? ⟨w.heap.size + 1 + 1, 0, none⟩ = some (.int .i64 4) ∧ W'.cell? ⟨w.heap.size + 1 + 1, 1, none⟩ = some (.int .i64 b1) ∧ W'.cell? ⟨w.heap.size + 1 + 1, 2, none⟩ = some (.int .i64 b2) ∧ W'.cell? ⟨w.heap.size + 1 + 1 + 1, 0, none⟩ = some (.int .u8 5) ∧ W'.cell? ⟨w.heap.size + 1 + 1 + 1, 1, none⟩ = some (.string name) ∧ W'.cell? ⟨w.heap.size + 1 + 1 + 1, 2, none⟩ = some (.string cond))
          (first | exact HSW.out _ (Below.refl _ _) | exact HSW.out _ hq0 | exact HSW.out _ hq1)
          (first
            | (go_at_call 36; refine (HSo.out _ hq0).mono ?_; rintro e W1 ⟨rfl, hb⟩; have hq1 := hq0.trans (hb.mono hq0.size); clear hb HSo))
        have HQ := Lib.hid hq1
        clear hq0 hq1 m0 m1 m2 m3 m4 m5 p0 p1 r0 r1 r2 s0 s1 s2
        by_cases hb1 : b1 = i2
        · have e1 : (b1 == i2) = true := by simpa using hb1
          have HR2 : Hid (true = Q1) := by show _ = _; rw [← HR.out]; simp [hb1]
          clear hb1
          go_wp2_with fail
          go_ret
          exact ⟨ret_bool (by rw [← HR2.out]; simp), HB1.out.trans (HQ.out.mono HB1.out.size)⟩
        · have e1 : (b1 == i2) = false := by simpa using hb1
          have HR2 : Hid (false = Q1) := by show _ = _; rw [← HR.out]; simp [hb1]
          clear hb1
          go_wp2_with fail
          go_meet
          exact ⟨HQ.out, HR2.out.symm⟩
      · have HR2 : Hid (false = Q1) := by show _ = _; rw [← HQ1.out]; simp [hb0]
        have e1 : (b0 == 4) = false := by simpa using hb0
        clear HTu HSt HSo hb0
        go_upto_region 8 with fail
        go_quiet (fail)
        go_wp2_with fail
        go_meet
        exact ⟨below_drewN (Below.refl _ _) _, HR2.out.symm⟩
    · have HR2 : Hid (false = Q1) := by show _ = _; rw [← HQ1.out]; simp [n2, n3, n4, n5]
      have e2 : (on == 2) = false := by simpa using n2
      have e3 : (on == 3) = false := by simpa using n3
      have e4 : (on == 4) = false := by simpa using n4
      have e5 : (on == 5) = false := by simpa using n5
      clear HTu HSt HSo n2 n3 n4 n5
      go_wp2_with fail
      go_meet
      exact ⟨Below.refl _ _, HR2.out.symm⟩
  case rest =>
    obtain ⟨HB, HQ1F⟩ := hcut
    clear m0 m1 m2 m3 m4 m5 p0 p1 r0 r1 r2 s0 s1 s2 HSt HSo HQ1
    obtain ⟨hbx, m0, m1, m2, m3, m4, m5, p0, p1, r0, r1, r2, s0, s1, s2⟩ := HSW.out wc HB.out
    clear hbx
    go_upto_region 11 with fail
    go_cut [78] (fun t wx => t = .bool Q2 ∧ Hid (Below w1.heap.size w1 wx))
    case first =>
      have hq0 := HB.out.drew
      by_cases h1 : a0 = 1
      · subst h1
        obtain ⟨h2, h3⟩ := HA.out rfl
        simp only at h2 h3
        obtain ⟨m, rfl⟩ : ∃ m : Nat, a1 = m := ⟨a1.toNat, by omega⟩
        have hml : m < md.stages.length := by omega
        have i1 : (m : Int) < (md.stages.length : Int) := by omega
        have i2 : (0 : Int) ≤ (m : Int) := by omega
        obtain ⟨b, off, ha, hbl, d1, e1, d2, e2, -, -, -, c1, -, -, -, -, -⟩ := stage_at (HM.out wc HB.out) hml
        have hin := HI.out m hml
        have hQ2 := HQ2.out
        simp only [inB, Int.toNat_natCast, List.getElem?_eq_getElem hml] at hQ2
        obtain ⟨x, hx⟩ : ∃ x, (md.stages[m]'hml).inn = x := ⟨_, rfl⟩
        rw [hx] at hin hQ2 c1
        have HST : Hid (∀ W', Below wc.heap.size wc W' → W'.cell? ⟨b, off + m * 7 + 1, none⟩ = some (.int .i64 x)) := fun W' hb => cellBelow2 hb c1
        obtain rfl : va3 = some ⟨b, off, none⟩ := ha
        by_cases h0 : 0 ≤ x
        · obtain ⟨r, hr⟩ : ∃ r, turnsB md (b0, b1, b2) x true true = r := ⟨_, rfl⟩
          have HT := Lib.hid (fun W' (h : Below w1.heap.size w1 W') => HTu.out x true true W' ⟨by omega, by omega⟩ h)
          simp only [hr] at HT
          have HR : Hid (r = Q2) := by show _ = _; rw [← hQ2, ← hr]; simp [h0]
          have HSX : Hid (∀ W', Below wc.heap.size wc W' → (W'.cell? ⟨b, off + m * 7 + 1, none⟩ = some (.int .i64 x) ∧ Below w1.heap.size w1 W' ∧ W'.cell? ⟨w.heap.size, 0, none⟩ = some (.string md.name) ∧ W'.cell? ⟨w.heap.size, 1, none⟩ = some (.slice va1 md.attrs.length vc1) ∧ W'.cell? ⟨w.heap.size, 2, none⟩ = some (.slice va2 md.events.length vc2) ∧ W'.cell? ⟨w.heap.size, 3, none⟩ = some (.slice (some ⟨b, off, none⟩) md.stages.length vc3) ∧
      W'.cell? ⟨w.heap.size, 4, none⟩ = some (.slice va4 md.stones.length vc4) ∧ W'.cell? ⟨w.heap.size, 5, none⟩ = some (.slice va5 md.apart.length vc5) ∧ W'.cell? ⟨w.heap.size + 1, 0, none⟩ = some (.int .i64 1) ∧ W'.cell? ⟨w.heap.size + 1, 1, none⟩ = some (.int .i64 (m : Int)) ∧
      W'.cell? ⟨w.heap.size + 1 + 1, 0, none⟩ = some (.int .i64 b0) ∧ W'.cell? ⟨w.heap.size + 1 + 1, 1, none⟩ = some (.int .i64 b1) ∧ W'.cell? ⟨w.heap.size + 1 + 1, 2, none⟩ = some (.int .i64 b2) ∧ W'.cell? ⟨w.heap.size + 1 + 1 + 1, 0, none⟩ = some (.int .u8 on) ∧ W'.cell? ⟨w.heap.size + 1 + 1 + 1, 1, none⟩ = some (.string name) ∧ W'.cell? ⟨w.heap.size + 1 + 1 + 1, 2, none⟩ = some (.string cond))) := fun W' hb => by
            have h := HSW.out W' (HB.out.trans (hb.mono HB.out.size))
            exact ⟨HST.out W' hb, h⟩
          have hk0 := (Below.refl wc.heap.size wc).drew
          clear hr hx hin hQ2 HTu HQ2 h2 h3
          go_region_held3 (fun W' => W'.cell? ⟨b, off + m * 7 + 1, none⟩ = some (.int .i64 x) ∧ Below w1.heap.size w1 W' ∧ W'.cell? ⟨w.heap.size, 0, none⟩ = some (.string md.name) ∧ W'.cell? ⟨w.heap.size, 1, none⟩ = some (.slice va1 md.attrs.length vc1) ∧ W'.cell? ⟨w.heap.size, 2, none⟩ = some (.slice va2 md.events.length vc2) ∧ W'.cell? ⟨w.heap.size, 3, none⟩ = some (.slice (some ⟨b, off, none⟩) md.stages.length vc3) ∧
      W'.cell? ⟨w.heap.size, 4, none⟩ = some (.slice va4 md.stones.length vc4) ∧ W'.cell? ⟨w.heap.size, 5, none⟩ = some (.slice va5 md.apart.length vc5) ∧ W'.cell? ⟨w.heap.size + 1, 0, none⟩ = some (.int .i64 1) ∧ W'.cell? ⟨w.heap.size + 1, 1, none⟩ = some (.int .i64 (m : Int)) ∧
      W'.cell? ⟨w.heap.size + 1 + 1, 0, none⟩ = some (.int .i64 b0) ∧ W'.cell? ⟨w.heap.size + 1 + 1, 1, none⟩ = some (.int .i64 b1) ∧ W'.cell? ⟨w.heap.size + 1 + 1, 2, none⟩ = some (.int .i64 b2) ∧ W'.cell? ⟨w.heap.size + 1 + 1 + 1, 0, none⟩ = some (.int .u8 on) ∧ W'.cell? ⟨w.heap.size + 1 + 1 + 1, 1, none⟩ = some (.string name) ∧ W'.cell? ⟨w.heap.size + 1 + 1 + 1, 2, none⟩ = some (.string cond))
            (first | exact HSX.out _ (Below.refl _ _) | exact HSX.out _ hk0 | exact HSX.out _ hk1)
            (first
              | (go_at_call 34; refine (HT.out _ (HB.out.trans (hk0.mono HB.out.size))).mono ?_; rintro e W2 ⟨rfl, hb⟩; have hk1 := hk0.trans (hb.mono hk0.size); clear hb))
          have HQ := Lib.hid hk1
          clear hq0 hk0 hk1
          go_wp2_with fail
          go_meet
          exact ⟨by rw [HR.out], HB.out.trans (HQ.out.mono HB.out.size)⟩
        · have hF : false = Q2 := by rw [← hQ2]; simp [h0]
          have HF := Lib.hid hF
          clear hx hin hQ2 HTu HQ2 h2 h3 hF
          go_quiet (fail)
          go_wp2_with fail
          go_meet
          exact ⟨by rw [HF.out], below_drewN HB.out _⟩
      · have HF : Hid (false = Q2) := by show _ = _; rw [← HQ2.out]; simp [inB, h1]
        have e1 : (a0 == 1) = false := by simpa using h1
        clear HTu HQ2 h1
        go_quiet (fail)
        go_wp2_with fail
        go_meet
        exact ⟨by rw [HF.out], below_drewN HB.out _⟩
    case rest =>
      obtain ⟨rfl, HBX⟩ := hcut
      clear m0 m1 m2 m3 m4 m5 p0 p1 r0 r1 r2 s0 s1 s2
      rename World => wd
      obtain ⟨hbx, m0, m1, m2, m3, m4, m5, p0, p1, r0, r1, r2, s0, s1, s2⟩ := HSW.out wd HBX.out
      clear hbx HTu HQ2
      cases Q2 with
      | true =>
        go_wp2_with fail
        go_ret
        exact ⟨ret_bool (by simp), HB1.out.trans (HBX.out.mono HB1.out.size)⟩
      | false =>
        rcases nz_list (s := cond) with ⟨h1, h2⟩ | ⟨h1, h2⟩
        · have HF : Hid (false = Q3) := by show _ = _; rw [← HQ3.out, condB_zero (size_zero.2 h1)]
          clear h1
          go_wp2_with fail
          go_ret
          exact ⟨ret_bool (by rw [HQ1F.out, ← HF.out]; rfl), HB1.out.trans (HBX.out.mono HB1.out.size)⟩
        · have h0 : cond.size ≠ 0 := fun h => h1 (size_zero.1 h)
          obtain ⟨t, ht⟩ := HCD.out h0
          simp only at ht
          have hQ3 := HQ3.out
          rw [condB_some h0 ht] at hQ3
          have HQ3' := Lib.hid hQ3
          have HTT := Lib.hid ht
          have HR := Lib.hid (Read_walkA cond wd (HV.out wd HBX.out))
          clear h1 h0 ht hQ3 HQ3 HCD
          go_wp2_with fail
          refine HR.out.mono ?_
          intro e w3 hr
          obtain ⟨hb3, g, ga, gc, cs, rfl, hg, hA⟩ := hr.answer
          rcases hA.told with ⟨t', hro, rfl, rfl⟩ | ⟨hro, rfl, hc⟩
          · rw [HTT.out] at hro
            injection hro with hro
            subst hro
            obtain ⟨n, xa, xl, xc, rfl⟩ := gin_kt hg
            have hb4 := (Below.refl w3.heap.size w3).alloc (Nat.le_refl _) (.cells #[.int .u8 t.kd, .int .i64 n, .string t.tx, .slice xa xl xc] 80)
            have hb34 := hb3.trans (hb4.mono hb3.size)
            have HB4 := Lib.hid (HBX.out.trans (hb34.mono HBX.out.size))
            obtain ⟨k1, k2, k3⟩ := readOf_may HTT.out
            have HN := Lib.hid (Names_walk t _ _ k1 k2 k3 (hg.keepB hb4))
            obtain ⟨z0, z1, z2, z3⟩ := box4 (Arr.new w3 [.int .u8 t.kd, .int .i64 n, .string t.tx, .slice xa xl xc] 80) (Below.refl _ _)
            clear m0 m1 m2 m3 m4 m5 p0 p1 r0 r1 r2 s0 s1 s2 HR hr hA hg hb3 hb4 hb34 k1 k2 k3
            go_wp2_with fail
            refine HN.out.mono ?_
            rintro e w5 ⟨hb5, v0, v1, v2, l1, l2, rfl, hs1, hs2, hl1, hl2, hm1, hm2⟩
            have hb15 := HB4.out.trans (hb5.mono HB4.out.size)
            have HB5 := Lib.hid hb15
            have HBXM : Hid (∀ W', Below w1.heap.size w1 W' → BoxM md ⟨va1, vc1, va2, vc2, va3, vc3, va4, vc4, va5, vc5⟩ w.heap.size (b0, b1, b2) (w.heap.size + 1 + 1) W') := fun W' hb => by
              obtain ⟨hbx, m0, m1, m2, m3, m4, m5, p0, p1, r0, r1, r2, s0, s1, s2⟩ := HSW.out W' hb
              exact ⟨m0, m1, m2, m3, m4, m5, r0, r1, r2⟩
            have eg1 : ∀ args w, (callFunc 40 args).run Tryz.prog w = .ok (.enter 40 args) w := enters_of Tryz.func40 (by kernel_rfl) rfl
            have eg2 : ∀ args w, (callFunc 41 args).run Tryz.prog w = .ok (.enter 41 args) w := enters_of Tryz.func41 (by kernel_rfl) rfl
            have HC1 := Lib.hid (hasStrs v1 l1 (fun s => turnsB md (b0, b1, b2) (stageIx md s) true true) 40 #[.pointer (some ⟨w.heap.size, 0, none⟩), .pointer (some ⟨w.heap.size + 1 + 1, 0, none⟩)] eg1 w5 hl1 (fun s _ W hW => by
              have hW1 := hb15.trans (hW.mono hb15.size)
              exact leans1_walk md _ _ _ _ s W HZ.out HI.out (HBXM.out W hW1) (HM.out W hW1)) hs1)
            have HC2 := Lib.hid (fun w6 (hb : Below w5.heap.size w5 w6) => hasStrs v2 l2 (fun s => decide (b1 = stoneIx md s)) 41 #[.pointer (some ⟨w.heap.size + 1 + 1, 0, none⟩), .pointer (some ⟨w.heap.size, 0, none⟩)] eg2 w6 hl2 (fun s _ W hW => by
              have hb16 := hb15.trans (hb.mono hb15.size)
              have hW1 := hb16.trans (hW.mono hb16.size)
              exact leans2_walk md _ _ _ _ s W HZ.out (HBXM.out W hW1) (HM.out W hW1)) (strs_keep hs2 hb))
            rw [any_same hm1] at HC1
            simp only [any_same hm2] at HC2
            obtain ⟨x1, hx1⟩ : ∃ x, (namesOf 6 t).any (fun n => turnsB md (b0, b1, b2) (stageIx md n) true true) = x := ⟨_, rfl⟩
            obtain ⟨x2, hx2⟩ : ∃ x, (namesOf 7 t).any (fun n => decide (b1 = stoneIx md n)) = x := ⟨_, rfl⟩
            rw [hx1] at HC1
            simp only [hx2] at HC2
            have HQX : Hid ((x1 || (decide (2 < b0) && x2)) = Q3) := by show _ = _; rw [← HQ3'.out, hx1, hx2]
            obtain ⟨hbx, m0, m1, m2, m3, m4, m5, p0, p1, r0, r1, r2, s0, s1, s2⟩ := HSW.out w5 hb15
            clear hb5 hb15 hs1 hs2 hl1 hl2 hm1 hm2 eg1 eg2 hx1 hx2 z0 z1 z2 z3 HN hbx HQ3'
            cases x1 with
            | true =>
              have HF : Hid (true = Q3) := by show _ = _; rw [← HQX.out]; rfl
              go_wp2_with fail
              refine HC1.out.mono ?_
              rintro e w6 ⟨rfl, hb6⟩
              have HB6 := Lib.hid (HB5.out.trans (hb6.mono HB5.out.size))
              clear hb6 HC1 HC2
              go_wp2_with fail
              go_ret
              exact ⟨ret_bool (by rw [HQ1F.out, ← HF.out]; rfl), HB1.out.trans (HB6.out.mono HB1.out.size)⟩
            | false =>
              go_wp2_with fail
              refine HC1.out.mono ?_
              rintro e w6 ⟨rfl, hb6⟩
              have HC3 := Lib.hid (HC2.out w6 hb6)
              have hb16 := HB5.out.trans (hb6.mono HB5.out.size)
              have HB6 := Lib.hid hb16
              clear m0 m1 m2 m3 m4 m5 p0 p1 r0 r1 r2 s0 s1 s2
              obtain ⟨hbx, m0, m1, m2, m3, m4, m5, p0, p1, r0, r1, r2, s0, s1, s2⟩ := HSW.out w6 hb16
              clear hb6 hb16 HC1 HC2 hbx
              by_cases h2b : 2 < b0
              · have HF : Hid (x2 = Q3) := by show _ = _; rw [← HQX.out]; simp [h2b]
                go_wp2_with fail
                refine HC3.out.mono ?_
                rintro e w7 ⟨rfl, hb7⟩
                have HB7 := Lib.hid (HB6.out.trans (hb7.mono HB6.out.size))
                clear hb7 HC3
                go_wp2_with fail
                go_ret
                exact ⟨ret_bool (by rw [HQ1F.out, ← HF.out]; rfl), HB1.out.trans (HB7.out.mono HB1.out.size)⟩
              · have HF : Hid (false = Q3) := by show _ = _; rw [← HQX.out]; simp [h2b]
                go_wp2_with fail
                go_ret
                exact ⟨ret_bool (by rw [HQ1F.out, ← HF.out]; rfl), HB1.out.trans (HB6.out.mono HB1.out.size)⟩
          · rw [HTT.out] at hro; cases hro
end Go.Proofs.YtfbbkmdhnkmonaaGreatDoor
