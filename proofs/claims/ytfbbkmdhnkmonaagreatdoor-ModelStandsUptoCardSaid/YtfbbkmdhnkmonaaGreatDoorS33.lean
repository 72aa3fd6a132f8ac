/- docketlaw18: size, many, great. -/
import Derived.Test.YtfbbkmdhnkmonaaGreatDoorS20
namespace Go.Proofs.YtfbbkmdhnkmonaaGreatDoor
open Go.RowKit

set_option maxHeartbeats 8000000 in
set_option maxRecDepth 100000 in
/-- size answers some number -/
theorem size_walk (l : List SentryD) (a : Option Addr) (c : Nat) (w : World) (hl : l.length ≤ 1048576) (h : Mem false (From 0) w (senD l) (.slice a l.length c)) :
    Calls Tryz.prog 22 #[.slice a l.length c] w (fun e w' => (∃ k, e = .returned (.int .i64 k)) ∧ Below w.heap.size w w') := by
  obtain ⟨_, _, b, off, hv, -, hC⟩ := flat_open h
  injection hv with e1 e2 e3
  subst e1 e3
  have HC := Lib.hid hC
  clear h hC e2
  go_enter Tryz.func22, Tryz.ntmps22
  go_wp2_with fail
  go_loopw [3, 4] (fun s i wr => ∃ (m : Nat) (k : Int), m ≤ l.length ∧ i = .int .i64 (m : Int) ∧ s = .int .i64 k ∧ Hid (Below w.heap.size w wr)) (fun _ i _ => l.length - (intOf i).toNat)
  case atStart => exact ⟨0, 0, Nat.zero_le _, rfl, rfl, Below.refl _ _⟩
  case round =>
    obtain ⟨m, k, hml, rfl, rfl, HB⟩ := hrel
    by_cases hlt : m < l.length
    · have i1 : (m : Int) < (l.length : Int) := by omega
      have i2 : (0 : Int) ≤ (m : Int) := by omega
      have HML := Lib.hid hlt
      by_cases hk : k < 100000
      · obtain ⟨rfl, -, hbl⟩ := HC.out.at0 (by omega)
        have c1 : wr.cell? ⟨b, off + m * 3 + 1, none⟩ = some (.string (l[m]'hlt).name) := cellBelow2 HB.out (HC.out.cell m hlt 1 _ rfl)
        have c2 : wr.cell? ⟨b, off + m * 3 + 2, none⟩ = some (.string (l[m]'hlt).cond) := cellBelow2 HB.out (HC.out.cell m hlt 2 _ rfl)
        obtain ⟨s1, hs1⟩ : ∃ s, (l[m]'hlt).name = s := ⟨_, rfl⟩
        obtain ⟨s2, hs2⟩ : ∃ s, (l[m]'hlt).cond = s := ⟨_, rfl⟩
        rw [hs1] at c1
        rw [hs2] at c2
        have HS : Hid (wr.drew.cell? ⟨b, off + m * 3 + 1, none⟩ = some (.string s1) ∧ wr.drew.cell? ⟨b, off + m * 3 + 2, none⟩ = some (.string s2)) := ⟨c1, c2⟩
        have HBD := Lib.hid (HB.out.drew)
        have k3 : IntKind.i64.wrap ((m : Int) + 1) = (m : Int) + 1 := wrap_i64 (by omega) (by omega)
        clear hs1 hs2 hbl
        go_upto_region 5 with fail
        go_region_held3 (fun W' => W'.cell? ⟨b, off + m * 3 + 1, none⟩ = some (.string s1) ∧ W'.cell? ⟨b, off + m * 3 + 2, none⟩ = some (.string s2)) (exact HS.out) (fail)
        go_wp2_with fail
        refine ⟨⟨m + 1, _, by have := HML.out; omega, by go_num, rfl, HBD.out⟩, by simp only [intOf]; have := HML.out; omega⟩
      · go_wp2_with fail
        go_ret
        exact ⟨⟨_, rfl⟩, HB.out⟩
    · have i1 : ¬ (m : Int) < (l.length : Int) := by omega
      go_wp2_with fail
      go_ret
      exact ⟨⟨_, rfl⟩, HB.out⟩
set_option maxHeartbeats 16000000 in
set_option maxRecDepth 100000 in
/-- many answers the number of sentries -/
theorem many_walk (md : ModelD) (v : ModelV) (w : World) (hz : md.Sml) (hM : ModelM false (From 0) w md v) :
    Calls Tryz.prog 15 #[.agg (v.cs md).toArray] w (fun e w' => e = .returned (.int .i64 (manyN md)) ∧ Below w.heap.size w w') := by
  obtain ⟨w1, hw1⟩ : ∃ w1, w.alloc (.cells (v.cs md).toArray 31) = w1 := ⟨_, rfl⟩
  have hb1 : Below w.heap.size w w1 := hw1 ▸ (Below.refl _ _).alloc (Nat.le_refl _) _
  have hx1 : Arr w1 w.heap.size 31 (v.cs md) := hw1 ▸ Arr.new w (v.cs md) _
  have HM := Lib.hid (fun W (hb : Below w1.heap.size w1 W) => hM.grow (hb1.trans (hb.mono hb1.size)))
  have HX := Lib.hid hx1
  have HB1 := Lib.hid hb1
  have HW1 := Lib.hid hw1
  have HZ := Lib.hid hz
  have hsl := hz.stages
  have htl := hz.stones
  have HL1 : Hid (∀ x ∈ md.stages, stageN x ≤ 2097152) := fun x hx => by have := HZ.out.inS x hx; unfold stageN; omega
  have HL2 : Hid (∀ x ∈ md.stones, stoneN x ≤ 2097152) := fun x hx => by have := HZ.out.inT x hx; unfold stoneN; omega
  obtain ⟨q, hq⟩ : ∃ q, manyN md = q := ⟨_, rfl⟩
  rw [hq]
  have HQ := Lib.hid hq
  obtain ⟨va1, vc1, va2, vc2, va3, vc3, va4, vc4, va5, vc5⟩ := v
  obtain ⟨y0, y1, y2, y3, y4, y5⟩ := box6 hx1 (Below.refl _ _)
  clear hM hb1 hx1 hw1 hz hq
  go_enter Tryz.func15, Tryz.ntmps15
  go_upto_region 1 with fail
  rw [HW1.out]
  go_wp2_with fail
  go_loopw [3, 4] (fun s i wr => ∃ m : Nat, m ≤ md.stages.length ∧ i = .int .i64 (m : Int) ∧ s = .int .i64 ((sumTo stageN md.stages m : Nat) : Int) ∧ Hid (Below w1.heap.size w1 wr)) (fun _ i _ => md.stages.length - (intOf i).toNat)
  case atStart => exact ⟨0, Nat.zero_le _, rfl, by rw [sumTo_zero]; rfl, Below.refl _ _⟩
  case round =>
    obtain ⟨m, hml, rfl, rfl, HB⟩ := hrel
    clear y0 y1 y2 y3 y4 y5
    obtain ⟨y0, y1, y2, y3, y4, y5⟩ := box6 HX.out HB.out
    have hsum := sumTo_le stageN md.stages _ HL1.out m hml
    by_cases hlt : m < md.stages.length
    · have i1 : (m : Int) < (md.stages.length : Int) := by omega
      have i2 : (0 : Int) ≤ (m : Int) := by omega
      have HML := Lib.hid hlt
      obtain ⟨b, off, ha, hbl, d1, e1, d2, e2, s1, s2, c0, c1, c2, c3, c4, c5, c6⟩ := stage_at (HM.out wr HB.out) hlt
      obtain rfl : va3 = some ⟨b, off, none⟩ := ha
      have hin := HZ.out.inS _ (List.getElem_mem hlt)
      have hss : sumTo stageN md.stages (m + 1) = sumTo stageN md.stages m + (md.stages[m].opens.length + md.stages[m].closes.length) := sumTo_succ stageN md.stages hlt
      have HSS : Hid (((sumTo stageN md.stages m : Nat) : Int) + (((md.stages[m]'hlt).opens.length : Int) + ((md.stages[m]'hlt).closes.length : Int)) = ((sumTo stageN md.stages (m + 1) : Nat) : Int)) := by show _ = _; rw [hss]; omega
      obtain ⟨S, hS⟩ : ∃ S, sumTo stageN md.stages m = S := ⟨_, rfl⟩
      rw [hS] at hsum HSS ⊢
      have k1 : IntKind.i64.wrap (((md.stages[m]'hlt).opens.length : Int) + ((md.stages[m]'hlt).closes.length : Int)) = ((md.stages[m]'hlt).opens.length : Int) + ((md.stages[m]'hlt).closes.length : Int) := wrap_i64 (by omega) (by omega)
      have k2 : IntKind.i64.wrap ((S : Int) + (((md.stages[m]'hlt).opens.length : Int) + ((md.stages[m]'hlt).closes.length : Int))) = (S : Int) + (((md.stages[m]'hlt).opens.length : Int) + ((md.stages[m]'hlt).closes.length : Int)) := wrap_i64 (by omega) (by omega)
      have k3 : IntKind.i64.wrap ((m : Int) + 1) = (m : Int) + 1 := wrap_i64 (by omega) (by omega)
      obtain ⟨sd, hsd⟩ : ∃ sd, md.stages[m]'hlt = sd := ⟨_, rfl⟩
      rw [hsd] at c2 c3 k1 k2 HSS
      have HS : Hid (wr.drew.cell? ⟨w.heap.size, 3, none⟩ = some (.slice (some ⟨b, off, none⟩) md.stages.length vc3) ∧ wr.drew.cell? ⟨b, off + m * 7 + 2, none⟩ = some (.slice d1 sd.opens.length e1) ∧ wr.drew.cell? ⟨b, off + m * 7 + 3, none⟩ = some (.slice d2 sd.closes.length e2)) := ⟨y3, c2, c3⟩
      have HBD := Lib.hid (HB.out.drew)
      clear s1 s2 hss hS hin hsum hsd
      go_upto_region 5 with fail
      clear c0 c1 c2 c3 c4 c5 c6 y0 y1 y2 y3 y4 y5
      go_region_held3 (fun W' => W'.cell? ⟨w.heap.size, 3, none⟩ = some (.slice (some ⟨b, off, none⟩) md.stages.length vc3) ∧ W'.cell? ⟨b, off + m * 7 + 2, none⟩ = some (.slice d1 sd.opens.length e1) ∧ W'.cell? ⟨b, off + m * 7 + 3, none⟩ = some (.slice d2 sd.closes.length e2)) (exact HS.out) (fail)
      go_wp2_with fail
      refine ⟨⟨m + 1, by have := HML.out; omega, by go_num, congrArg (Value.int .i64) HSS.out, HBD.out⟩, by simp only [intOf]; have := HML.out; omega⟩
    · obtain rfl : m = md.stages.length := by omega
      have i1 : ¬ (md.stages.length : Int) < (md.stages.length : Int) := by omega
      have HSA : Hid (sumTo stageN md.stages md.stages.length = (md.stages.map stageN).sum) := sumTo_all _ _
      obtain ⟨S0, hS0⟩ : ∃ S, sumTo stageN md.stages md.stages.length = S := ⟨_, rfl⟩
      rw [hS0] at hsum HSA ⊢
      clear hS0
      go_wp2_with fail
      go_loopw [3, 5] (fun s i wr => ∃ m : Nat, m ≤ md.stones.length ∧ i = .int .i64 (m : Int) ∧ s = .int .i64 ((S0 + sumTo stoneN md.stones m : Nat) : Int) ∧ Hid (Below w1.heap.size w1 wr)) (fun _ i _ => md.stones.length - (intOf i).toNat)
      case atStart => exact ⟨0, Nat.zero_le _, rfl, by rw [sumTo_zero]; rfl, HB.out⟩
      case round =>
        obtain ⟨m, hml, rfl, rfl, HB⟩ := hrel
        clear y0 y1 y2 y3 y4 y5
        obtain ⟨y0, y1, y2, y3, y4, y5⟩ := box6 HX.out HB.out
        have hsum2 := sumTo_le stoneN md.stones _ HL2.out m hml
        by_cases hlt : m < md.stones.length
        · have i1 : (m : Int) < (md.stones.length : Int) := by omega
          have i2 : (0 : Int) ≤ (m : Int) := by omega
          have HML := Lib.hid hlt
          obtain ⟨b, off, ha, hbl, d1, e1, d2, e2, s1, s2, c0, c1, c2⟩ := stone_at (HM.out wr HB.out) hlt
          obtain rfl : va4 = some ⟨b, off, none⟩ := ha
          have hin := HZ.out.inT _ (List.getElem_mem hlt)
          have hss : sumTo stoneN md.stones (m + 1) = sumTo stoneN md.stones m + (md.stones[m].done.length + md.stones[m].undo.length) := sumTo_succ stoneN md.stones hlt
          have HSS : Hid (((S0 + sumTo stoneN md.stones m : Nat) : Int) + (((md.stones[m]'hlt).done.length : Int) + ((md.stones[m]'hlt).undo.length : Int)) = ((S0 + sumTo stoneN md.stones (m + 1) : Nat) : Int)) := by show _ = _; rw [hss]; omega
          obtain ⟨S, hS⟩ : ∃ S, S0 + sumTo stoneN md.stones m = S := ⟨_, rfl⟩
          have hSb : S ≤ S0 + m * 2097152 := by omega
          rw [hS] at HSS ⊢
          have k1 : IntKind.i64.wrap (((md.stones[m]'hlt).done.length : Int) + ((md.stones[m]'hlt).undo.length : Int)) = ((md.stones[m]'hlt).done.length : Int) + ((md.stones[m]'hlt).undo.length : Int) := wrap_i64 (by omega) (by omega)
          have k2 : IntKind.i64.wrap ((S : Int) + (((md.stones[m]'hlt).done.length : Int) + ((md.stones[m]'hlt).undo.length : Int))) = (S : Int) + (((md.stones[m]'hlt).done.length : Int) + ((md.stones[m]'hlt).undo.length : Int)) := wrap_i64 (by omega) (by omega)
          have k3 : IntKind.i64.wrap ((m : Int) + 1) = (m : Int) + 1 := wrap_i64 (by omega) (by omega)
          obtain ⟨sd, hsd⟩ : ∃ sd, md.stones[m]'hlt = sd := ⟨_, rfl⟩
          rw [hsd] at c1 c2 k1 k2 HSS
          have HS : Hid (wr.drew.cell? ⟨w.heap.size, 4, none⟩ = some (.slice (some ⟨b, off, none⟩) md.stones.length vc4) ∧ wr.drew.cell? ⟨b, off + m * 3 + 1, none⟩ = some (.slice d1 sd.done.length e1) ∧ wr.drew.cell? ⟨b, off + m * 3 + 2, none⟩ = some (.slice d2 sd.undo.length e2)) := ⟨y4, c1, c2⟩
          have HBD := Lib.hid (HB.out.drew)
          clear s1 s2 hss hS hin hsum2 hsd hSb
          go_upto_region 9 with fail
          clear c0 c1 c2 y0 y1 y2 y3 y4 y5
          go_region_held3 (fun W' => W'.cell? ⟨w.heap.size, 4, none⟩ = some (.slice (some ⟨b, off, none⟩) md.stones.length vc4) ∧ W'.cell? ⟨b, off + m * 3 + 1, none⟩ = some (.slice d1 sd.done.length e1) ∧ W'.cell? ⟨b, off + m * 3 + 2, none⟩ = some (.slice d2 sd.undo.length e2)) (exact HS.out) (fail)
          go_wp2_with fail
          refine ⟨⟨m + 1, by have := HML.out; omega, by go_num, congrArg (Value.int .i64) HSS.out, HBD.out⟩, by simp only [intOf]; have := HML.out; omega⟩
        · obtain rfl : m = md.stones.length := by omega
          have i1 : ¬ (md.stones.length : Int) < (md.stones.length : Int) := by omega
          have HMY : Hid (((S0 + sumTo stoneN md.stones md.stones.length : Nat) : Int) = (q : Int)) := by show _ = _; rw [← HQ.out, HSA.out, sumTo_all, manyN_eq]
          have HBB := Lib.hid (HB1.out.trans (HB.out.mono HB1.out.size))
          go_wp2_with fail
          go_ret
          exact ⟨ret_int HMY.out, HBB.out⟩
end Go.Proofs.YtfbbkmdhnkmonaaGreatDoor
