/- package model: ordered, walked. -/
import Derived.Test.YtfbbkmdhnkmonaaGreatDoorS17
namespace Go.Proofs.YtfbbkmdhnkmonaaGreatDoor
open Go.RowKit

def lenV : Value → Nat
  | .slice _ n _ => n
  | _ => 0
theorem grown_cells {w w' : World} {M : Nat} (h : w.grownBy w' (some M)) {a : Addr} {v : Value} (hc : w.cell? a = some v) (hm : ∃ cl es, w.heap[M]? = some (.map es cl)) : w'.cell? a = some v := grown_cell h hc hm
/-- how ordered ends -/
def OrderedEnd (md : ModelD) (w : World) (e : Ending) (w' : World) : Prop := Below w.heap.size w w' ∧ ∃ va vc, e = .returned (.slice va (orderL md).length vc) ∧ Mem false (From 0) w' (flatL 3 plC (orderL md)) (.slice va (orderL md).length vc)
theorem leansB_at {md : ModelD} {a : Pl} (ha : a ∈ placesL md) (b : Pl) : ∃ s, senAt md a = some s ∧ leansB md a b = leansS md a b s := by
  obtain ⟨s, hs⟩ := Option.isSome_iff_exists.1 (mem_placesL.1 ha)
  exact ⟨s, hs, by rw [leansB, hs]⟩
theorem place_stage {md : ModelD} {a : Pl} (ha : a ∈ placesL md) (h1 : a.1 = 1) : 0 ≤ a.2.1 ∧ a.2.1 < md.stages.length := by
  obtain ⟨h2, h3⟩ := senAt_some.1 (mem_placesL.1 ha)
  obtain ⟨-, h4, -⟩ := senL_range h3
  refine ⟨h4, ?_⟩
  rw [h1] at h3
  rcases Nat.lt_or_ge a.2.1.toNat md.stages.length with h5 | h5
  · omega
  · unfold senL at h3
    rw [if_neg (by omega), if_pos rfl, List.getElem?_eq_none h5] at h3
    simp at h3
set_option maxHeartbeats 32000000 in
set_option maxRecDepth 100000 in
theorem ordered_walk (md : ModelD) (v : ModelV) (w : World) (ga : Option Addr) (vc Mm : Nat) (ents : KM.Ents Pl) (hz : md.Sml) (hf : md.Few) (hi : InOk md) (hcs : ∀ p s, senAt md p = some s → s.cond.size ≠ 0 → ∃ t, readOf s.cond = some t) (hM : ModelM false (From 0) w md v) (hv : GRng w)
    (hP : Mem false (From 0) w (flatL 3 plC (placesL md)) (.slice ga (placesL md).length vc)) (hA : KM.MapIs plV okPl w Mm ents) (hAG : ∀ p, KM.getM ents p = senP md p) :
    Calls Tryz.prog 21 #[.agg (v.cs md).toArray, .slice ga (placesL md).length vc, .map (some Mm)] w (OrderedEnd md w) := by
  obtain ⟨_, _, b, off, hvv, -, hC⟩ := flat_open hP
  injection hvv with e1 e2 e3
  subst e1 e3
  obtain ⟨a1, n1, a2, n2, a3, n3, a4, n4, a5, n5⟩ := v
  obtain ⟨wa, hwa⟩ : ∃ wa, w.alloc (.cells (ModelV.cs ⟨a1, n1, a2, n2, a3, n3, a4, n4, a5, n5⟩ md).toArray 31) = wa := ⟨_, rfl⟩
  obtain ⟨w1, hw1⟩ : ∃ w1, (wa.alloc (.map #[] 0)).alloc (.cells #[.map (some (w.heap.size + 1))] 97) = w1 := ⟨_, rfl⟩
  have hza : wa.heap.size = w.heap.size + 1 := by rw [← hwa, size_alloc]
  have hba : Below w.heap.size w wa := hwa ▸ (Below.refl _ _).alloc (Nat.le_refl _) _
  have hxa : Arr wa w.heap.size 31 (ModelV.cs ⟨a1, n1, a2, n2, a3, n3, a4, n4, a5, n5⟩ md) := hwa ▸ Arr.new w _ _
  have hb1 : Below w.heap.size w w1 := hw1 ▸ (hba.alloc (by omega) _).alloc (by rw [size_alloc]; omega) _
  have hx1 : Arr w1 w.heap.size 31 (ModelV.cs ⟨a1, n1, a2, n2, a3, n3, a4, n4, a5, n5⟩ md) := hw1 ▸ (hxa.alloc _).alloc _
  have hm1 : KM.MapIs plV okPl w1 (w.heap.size + 1) [] := by
    have := (KM.MapIs.made (val := plV) (ok := okPl) wa).alloc (.cells #[.map (some (w.heap.size + 1))] 97)
    rw [hza, hw1] at this
    exact this
  have hc1 : w1.cell? ⟨w.heap.size + 1 + 1, 0, none⟩ = some (.map (some (w.heap.size + 1))) := by
    have := (Arr.new (wa.alloc (.map #[] 0)) [.map (some (w.heap.size + 1))] 97).cell (j := 0) (by simp)
    rw [size_alloc, hza, show (wa.alloc (.map #[] 0)).alloc (.cells (List.toArray [Value.map (some (w.heap.size + 1))]) 97) = w1 from hw1] at this
    exact this
  have hz1 : w1.heap.size = w.heap.size + 1 + 1 + 1 := by rw [← hw1, size_alloc, size_alloc, hza]
  have hpl : (placesL md).length ≤ 128 := by rw [length_placesL]; exact hf.many
  have HIM := Lib.hid hm1.isMap
  have hkeep : ∀ W, w1.grownBy W (some (w.heap.size + 1)) → Below w.heap.size w W := fun W hg => hb1.grown hg hb1.size (fun j hj => by cases hj; omega)
  have HKP := Lib.hid hkeep
  have hx6 : ∀ W, w1.grownBy W (some (w.heap.size + 1)) → W.cell? ⟨w.heap.size, 0, none⟩ = some (.string md.name) ∧ W.cell? ⟨w.heap.size, 1, none⟩ = some (.slice a1 md.attrs.length n1) ∧ W.cell? ⟨w.heap.size, 2, none⟩ = some (.slice a2 md.events.length n2) ∧
      W.cell? ⟨w.heap.size, 3, none⟩ = some (.slice a3 md.stages.length n3) ∧ W.cell? ⟨w.heap.size, 4, none⟩ = some (.slice a4 md.stones.length n4) ∧ W.cell? ⟨w.heap.size, 5, none⟩ = some (.slice a5 md.apart.length n5) ∧ W.cell? ⟨w.heap.size + 1 + 1, 0, none⟩ = some (.map (some (w.heap.size + 1))) := fun W hg => by
    obtain ⟨y0, y1, y2, y3, y4, y5⟩ := box6 hx1 (Below.refl _ _)
    exact ⟨grown_cell hg y0 HIM.out, grown_cell hg y1 HIM.out, grown_cell hg y2 HIM.out, grown_cell hg y3 HIM.out, grown_cell hg y4 HIM.out, grown_cell hg y5 HIM.out, grown_cell hg hc1 HIM.out⟩
  have HX6 := Lib.hid hx6
  have HPC := Lib.hid (fun W (hb : Below w.heap.size w W) (j : Nat) (hj : j < (placesL md).length) => (⟨(hC.at0 (by omega)).1, cellBelow2 hb (hC.cell j hj 0 _ rfl), cellBelow2 hb (hC.cell j hj 1 _ rfl), cellBelow2 hb (hC.cell j hj 2 _ rfl)⟩ : ga = some ⟨b, off, none⟩ ∧
    W.cell? ⟨b, off + j * 3, none⟩ = some (.int .i64 (placesL md)[j].1) ∧ W.cell? ⟨b, off + j * 3 + 1, none⟩ = some (.int .i64 (placesL md)[j].2.1) ∧ W.cell? ⟨b, off + j * 3 + 2, none⟩ = some (.int .i64 (placesL md)[j].2.2)))
  have HMB := Lib.hid (fun W (hb : Below w.heap.size w W) => hM.grow hb)
  have HVB := Lib.hid (fun W (hb : Below w.heap.size w W) => hv.below hb)
  have HPB := Lib.hid (fun W (hb : Below w.heap.size w W) => hP.grow hb)
  have HLK := Lib.hid (fun W (hb : Below w.heap.size w W) (p : Pl) (s : SentryD) (hp : okPl p) (hs : senAt md p = some s) => (by
    have := (hA.below hb hA.lt).get Tryz.underlying51 plEnc Tryz.zeroValue35 hp
    rw [hAG, senP, hs] at this
    exact this : (Instr.lookup 51 (.map (some Mm)) (plV p) false).run Tryz.prog W = .ok (senV s) W))
  have HM1 := Lib.hid hm1
  have HC1 := Lib.hid hc1
  have HZ := Lib.hid hz
  have HF := Lib.hid hf
  have HI := Lib.hid hi
  have HCS := Lib.hid hcs
  have HZ1 := Lib.hid hz1
  have HWA := Lib.hid hwa
  have HW1 : Hid ((wa.alloc (.map #[] 0)).alloc (.cells #[.map (some (w.heap.size + 1))] 97) = w1) := hw1
  obtain ⟨y0, y1, y2, y3, y4, y5, yB⟩ := hx6 w1 (World.grownBy.refl _ _)
  have hmm := @run_makeMap Tryz.prog
  clear hM hx1 hb1 hm1 hc1 hz hf hi hcs hv hP hA hAG hz1 hwa hw1 hba hxa hkeep hx6 hC e2
  go_enter Tryz.func21, Tryz.ntmps21
  go_upto_region 1 with fail
  rw [HWA.out]
  go_upto_region 2 with fail
  rw [HW1.out]
  go_wp2_with fail
  go_loopw [18] (fun i wr => ∃ n : Nat, n ≤ (placesL md).length ∧ i = .int .i64 (n : Int) ∧ Hid (w1.grownBy wr (some (w.heap.size + 1))) ∧ Hid (∃ ents, KM.MapIs plV okPl wr (w.heap.size + 1) ents ∧ RowsTo md (w.heap.size + 1) n wr ents)) (fun i _ => (placesL md).length - (intOf i).toNat)
  case atStart => exact ⟨0, Nat.zero_le _, rfl, World.grownBy.refl _ _, [], HM1.out, RowsTo.start _ _ _⟩
  case round =>
    obtain ⟨n, hnl, rfl, HG, HR⟩ := hrel
    obtain ⟨wo, rfl⟩ : ∃ wo, wo = wr := ⟨_, rfl⟩
    by_cases hlt : n < (placesL md).length
    · have i1 : (n : Int) < ((placesL md).length : Int) := by omega
      have i2 : (0 : Int) ≤ (n : Int) := by omega
      have HNL := Lib.hid hlt
      obtain ⟨hga, c0, c1, c2⟩ := HPC.out wo (HKP.out wo HG.out) n hlt
      subst hga
      obtain ⟨a, ha⟩ : ∃ a, (placesL md)[n]'hlt = a := ⟨_, rfl⟩
      rw [ha] at c0 c1 c2
      have ham : a ∈ placesL md := ha ▸ List.getElem_mem hlt
      have hoka := okPl_places HF.out ham
      obtain ⟨p0, p1, p2⟩ := a
      simp only at c0 c1 c2
      obtain ⟨wI, hwI⟩ : ∃ wI, wo.alloc (.cells #[.int .i64 p0, .int .i64 p1, .int .i64 p2] 33) = wI := ⟨_, rfl⟩
      have hgI : wo.grownBy wI (some (w.heap.size + 1)) := hwI ▸ World.grownBy_alloc _ _ _
      have hG1I := HG.out.trans hgI
      obtain ⟨ents0, hm0, hr0⟩ := HR.out
      have hmI : KM.MapIs plV okPl wI (w.heap.size + 1) ents0 := hwI ▸ hm0.alloc _
      have hrI := hr0.grown hgI
      have hxA : Arr wI wo.heap.size 33 [.int .i64 p0, .int .i64 p1, .int .i64 p2] := hwI ▸ Arr.new wo _ _
      have hMlt : w.heap.size + 1 < wI.heap.size := hmI.lt
      have hsA : ∀ W, wI.grownBy W (some (w.heap.size + 1)) → W.cell? ⟨wo.heap.size, 0, none⟩ = some (.int .i64 p0) ∧ W.cell? ⟨wo.heap.size, 1, none⟩ = some (.int .i64 p1) ∧ W.cell? ⟨wo.heap.size, 2, none⟩ = some (.int .i64 p2) := fun W hg =>
        ⟨grown_cell hg (hxA.cell (j := 0) (by simp)) hmI.isMap, grown_cell hg (hxA.cell (j := 1) (by simp)) hmI.isMap, grown_cell hg (hxA.cell (j := 2) (by simp)) hmI.isMap⟩
      have HSA := Lib.hid hsA
      have HWI := Lib.hid hwI
      have HGI := Lib.hid hG1I
      have HRI := Lib.hid hrI
      have HMI := Lib.hid hmI
      have HML := Lib.hid hMlt
      have HAM := Lib.hid ham
      have HOK := Lib.hid hoka
      have HA := Lib.hid ha
      clear y0 y1 y2 y3 y4 y5 yB hgI hG1I hm0 hr0 hmI hrI hxA hMlt hsA hwI ha ham hoka HR
      go_upto_region 5 with fail
      rw [HWI.out]
      go_wp2_with fail
      clear c0 c1 c2
      go_loopw [24] (fun i wr2 => ∃ j : Nat, j ≤ (placesL md).length ∧ i = .int .i64 (j : Int) ∧ Hid (wI.grownBy wr2 (some (w.heap.size + 1))) ∧ Hid (∃ ents, KM.MapIs plV okPl wr2 (w.heap.size + 1) ents ∧ RowIn md (p0, p1, p2) wI.heap.size ents0 j wr2 ents)) (fun i _ => (placesL md).length - (intOf i).toNat)
      case atStart => exact ⟨0, Nat.zero_le _, rfl, World.grownBy.refl _ _, ents0, HMI.out, HA.out ▸ RowIn.start HRI.out wI HNL.out⟩
      case round =>
        obtain ⟨j, hjl, rfl, HG2, HR2⟩ := hrel
        by_cases hjt : j < (placesL md).length
        · have j1 : (j : Int) < ((placesL md).length : Int) := by omega
          have j2 : (0 : Int) ≤ (j : Int) := by omega
          have HJT := Lib.hid hjt
          have hG12 := HGI.out.trans HG2.out
          obtain ⟨-, c0, c1, c2⟩ := HPC.out wr (HKP.out wr hG12) j hjt
          obtain ⟨y0, y1, y2, y3, y4, y5, yB⟩ := HX6.out wr hG12
          obtain ⟨x0, x1, x2⟩ := HSA.out wr HG2.out
          obtain ⟨bb, hbb⟩ : ∃ bb, (placesL md)[j]'hjt = bb := ⟨_, rfl⟩
          rw [hbb] at c0 c1 c2
          obtain ⟨q0, q1, q2⟩ := bb
          simp only at c0 c1 c2
          obtain ⟨wB, hwB⟩ : ∃ wB, wr.alloc (.cells #[.int .i64 q0, .int .i64 q1, .int .i64 q2] 33) = wB := ⟨_, rfl⟩
          have hbB : Below wr.heap.size wr wB := hwB ▸ (Below.refl _ _).alloc (Nat.le_refl _) _
          have hxB : Arr wB wr.heap.size 33 [.int .i64 q0, .int .i64 q1, .int .i64 q2] := hwB ▸ Arr.new wr _ _
          have hG1B : w1.grownBy wB (some (w.heap.size + 1)) := hG12.trans (below_grown hbB _)
          have hG2B : wI.grownBy wB (some (w.heap.size + 1)) := HG2.out.trans (below_grown hbB _)
          obtain ⟨s, hs, hls⟩ := leansB_at HAM.out (q0, q1, q2)
          have HL := Lib.hid (fun W (hb : Below wB.heap.size wB W) => leans_walk md ⟨a1, n1, a2, n2, a3, n3, a4, n4, a5, n5⟩ (p0, p1, p2) (q0, q1, q2) s W HZ.out HI.out (place_stage HAM.out) (HCS.out _ s hs) (HMB.out W (HKP.out W (hG1B.trans (below_grown hb _)))) (HVB.out W (HKP.out W (hG1B.trans (below_grown hb _)))))
          have HSW : Hid (∀ W', Below wB.heap.size wB W' → (Below wB.heap.size wB W' ∧ W'.cell? ⟨w.heap.size, 0, none⟩ = some (.string md.name) ∧ W'.cell? ⟨w.heap.size, 1, none⟩ = some (.slice a1 md.attrs.length n1) ∧ W'.cell? ⟨w.heap.size, 2, none⟩ = some (.slice a2 md.events.length n2) ∧
            W'.cell? ⟨w.heap.size, 3, none⟩ = some (.slice a3 md.stages.length n3) ∧ W'.cell? ⟨w.heap.size, 4, none⟩ = some (.slice a4 md.stones.length n4) ∧ W'.cell? ⟨w.heap.size, 5, none⟩ = some (.slice a5 md.apart.length n5) ∧
            W'.cell? ⟨wo.heap.size, 0, none⟩ = some (.int .i64 p0) ∧ W'.cell? ⟨wo.heap.size, 1, none⟩ = some (.int .i64 p1) ∧ W'.cell? ⟨wo.heap.size, 2, none⟩ = some (.int .i64 p2) ∧
            W'.cell? ⟨wr.heap.size, 0, none⟩ = some (.int .i64 q0) ∧ W'.cell? ⟨wr.heap.size, 1, none⟩ = some (.int .i64 q1) ∧ W'.cell? ⟨wr.heap.size, 2, none⟩ = some (.int .i64 q2) ∧
            (Instr.lookup 51 (.map (some Mm)) (.agg #[.int .i64 p0, .int .i64 p1, .int .i64 p2]) false).run Tryz.prog W' = .ok (senV s) W')) := fun W' hb => by
            have hgg := hG1B.trans (below_grown hb _)
            obtain ⟨z0, z1, z2, z3, z4, z5, -⟩ := HX6.out W' hgg
            obtain ⟨x0, x1, x2⟩ := HSA.out W' (hG2B.trans (below_grown hb _))
            exact ⟨hb, z0, z1, z2, z3, z4, z5, x0, x1, x2, cellBelow2 hb (hxB.cell (j := 0) (by simp)), cellBelow2 hb (hxB.cell (j := 1) (by simp)), cellBelow2 hb (hxB.cell (j := 2) (by simp)), HLK.out W' (HKP.out W' hgg) (p0, p1, p2) s HOK.out hs⟩
          obtain ⟨r, hr⟩ : ∃ r, leansS md (p0, p1, p2) (q0, q1, q2) s = r := ⟨_, rfl⟩
          simp only [hr, plV, senV] at HL
          simp only [senV] at HSW
          have HWB := Lib.hid hwB
          have HG1B := Lib.hid hG1B
          have HG2B := Lib.hid hG2B
          have HLS : Hid (leansB md (p0, p1, p2) ((placesL md)[j]'hjt) = r) := by show _ = _; rw [hbb, hls, hr]
          have HBB := Lib.hid hbb
          have HRB : Hid (∃ ents, KM.MapIs plV okPl wB (w.heap.size + 1) ents ∧ RowIn md (p0, p1, p2) wI.heap.size ents0 j wB ents) := by
            obtain ⟨e, h1, h2⟩ := HR2.out
            exact ⟨e, h1.below hbB h1.lt, h2.below hbB⟩
          have hq0 := (Below.refl wB.heap.size wB).drew
          clear hG12 hbb hbB hxB hG1B hG2B hs hls hr hwB HR2 HG2
          go_upto_region 8 with fail
          rw [HWB.out]
          clear c0 c1 c2 y0 y1 y2 y3 y4 y5 yB x0 x1 x2
          go_region_held3 (fun W' => Below wB.heap.size wB W' ∧ W'.cell? ⟨w.heap.size, 0, none⟩ = some (.string md.name) ∧ W'.cell? ⟨w.heap.size, 1, none⟩ = some (.slice a1 md.attrs.length n1) ∧ W'.cell? ⟨w.heap.size, 2, none⟩ = some (.slice a2 md.events.length n2) ∧
            W'.cell? ⟨w.heap.size, 3, none⟩ = some (.slice a3 md.stages.length n3) ∧ W'.cell? ⟨w.heap.size, 4, none⟩ = some (.slice a4 md.stones.length n4) ∧ W'.cell? ⟨w.heap.size, 5, none⟩ = some (.slice a5 md.apart.length n5) ∧
            W'.cell? ⟨wo.heap.size, 0, none⟩ = some (.int .i64 p0) ∧ W'.cell? ⟨wo.heap.size, 1, none⟩ = some (.int .i64 p1) ∧ W'.cell? ⟨wo.heap.size, 2, none⟩ = some (.int .i64 p2) ∧
            W'.cell? ⟨wr.heap.size, 0, none⟩ = some (.int .i64 q0) ∧ W'.cell? ⟨wr.heap.size, 1, none⟩ = some (.int .i64 q1) ∧ W'.cell? ⟨wr.heap.size, 2, none⟩ = some (.int .i64 q2) ∧
            (Instr.lookup 51 (.map (some Mm)) (.agg #[.int .i64 p0, .int .i64 p1, .int .i64 p2]) false).run Tryz.prog W' = .ok (.agg #[.int .u8 s.on, .string s.name, .string s.cond]) W')
            (first | exact HSW.out _ (Below.refl _ _) | exact HSW.out _ hq0 | exact HSW.out _ hq1)
            (first
              | (go_at_call 18; refine (HL.out _ hq0).mono ?_; rintro e W1 ⟨rfl, hb⟩; have hq1 := hq0.trans (hb.mono hq0.size); clear hb HL))
          have hq1G := HG2B.out.trans (below_grown hq1 (w.heap.size + 1))
          have hq1H := HG1B.out.trans (below_grown hq1 (w.heap.size + 1))
          have wr1 : IntKind.i64.wrap ((j : Int) + 1) = (j : Int) + 1 := wrap_i64 (by omega) (by omega)
          obtain ⟨e1, hm1, hr1⟩ := HRB.out
          have hm2 := hm1.below hq1 hm1.lt
          have hr2 := hr1.below hq1
          cases r with
          | true =>
            obtain ⟨st, ra, rc, ra', rc', rn, u1, u2, u3, he, hap, hes, hg3, hrr⟩ := entry_step HML.out hq1G hm2 hr2 HJT.out HLS.out HOK.out (by omega)
            rw [HBB.out] at he
            replace he : (Instr.mapEntry 97 (.map (some (w.heap.size + 1))) (.agg #[.int .i64 p0, .int .i64 p1, .int .i64 p2])).run Tryz.prog (W1.alloc (.cells #[.int .i64 q0, .int .i64 q1, .int .i64 q2] 33)) = .ok (.tuple #[.slice ra rn rc, goInt st]) u1 := he
            have HAP := Lib.hid hap
            have HG3 := Lib.hid hg3
            have HRR := Lib.hid hrr
            obtain ⟨-, -, -, -, -, -, -, x0, x1, x2, c0, c1, c2, -⟩ := HSW.out _ hq1
            obtain ⟨-, -, -, -, -, -, yB⟩ := HX6.out _ hq1H
            simp only [goInt] at he hes
            clear hap hg3 hrr hm1 hr1 hm2 hr2 hq1G hq1H hq0 hq1 HRB HSW
            go_wp2_with (at_builtin; refine wpList_append_run (by rfl) (.tmp 37) (.tmp 39) 42 (by rfl) (by rfl) (by rfl) HAP.out ?_)
            refine ⟨⟨j + 1, by have := HJT.out; omega, by go_num, HG3.out, HRR.out⟩, by simp only [intOf]; have := HJT.out; omega⟩
          | false =>
            have HRR : Hid (∃ ents, KM.MapIs plV okPl W1 (w.heap.size + 1) ents ∧ RowIn md (p0, p1, p2) wI.heap.size ents0 (j + 1) W1 ents) := ⟨e1, hm2, hr2.skip HJT.out HLS.out⟩
            have HG3 := Lib.hid hq1G
            clear hm1 hr1 hm2 hr2 hq1G hq1H hq0 hq1 HRB HSW
            go_wp2_with fail
            refine ⟨⟨j + 1, by have := HJT.out; omega, by go_num, HG3.out, HRR.out⟩, by simp only [intOf]; have := HJT.out; omega⟩
        · obtain rfl : j = (placesL md).length := by omega
          have j1 : ¬ ((placesL md).length : Int) < ((placesL md).length : Int) := by omega
          have wr1 : IntKind.i64.wrap ((n : Int) + 1) = (n : Int) + 1 := wrap_i64 (by omega) (by omega)
          have HGN := Lib.hid (HGI.out.trans HG2.out)
          have HRN : Hid (∃ ents, KM.MapIs plV okPl wr (w.heap.size + 1) ents ∧ RowsTo md (w.heap.size + 1) (n + 1) wr ents) := by
            obtain ⟨e1, h1, h2⟩ := HR2.out
            exact ⟨e1, h1, HRI.out.next HNL.out HG2.out HML.out (HA.out ▸ h2)⟩
          clear HR2 HG2
          go_wp2_with fail
          refine ⟨⟨n + 1, by have := HNL.out; omega, by go_num, HGN.out, HRN.out⟩, by simp only [intOf]; have := HNL.out; omega⟩
    · obtain rfl : n = (placesL md).length := by omega
      have i1 : ¬ ((placesL md).length : Int) < ((placesL md).length : Int) := by omega
      obtain ⟨wK, hwK⟩ : ∃ wK, wo.alloc (.cells #[.slice none 0 0] 42) = wK := ⟨_, rfl⟩
      have hbK : Below wo.heap.size wo wK := hwK ▸ (Below.refl _ _).alloc (Nat.le_refl _) _
      have hxK : Arr wK wo.heap.size 42 [.slice none 0 0] := hwK ▸ Arr.new wo _ _
      have hfK : wK.frozen? ⟨wo.heap.size, 0, none⟩ = false := hwK ▸ World.frozen?_alloc_new wo _ _ _
      have hszK : wK.heap.size = wo.heap.size + 1 := by rw [← hwK, size_alloc]
      obtain ⟨e0, hm0, hr0⟩ := HR.out
      have HMO := Lib.hid hm0
      have HRO := Lib.hid hr0.all
      have HG1K := Lib.hid (HG.out.trans (below_grown hbK _))
      have HCL := Lib.hid (clonePls (placesL md) ga vc wK (by omega) (HPB.out wK (HKP.out wK HG1K.out)))
      have hMlt : w.heap.size + 1 < wo.heap.size := hm0.lt
      have HMLT := Lib.hid hMlt
      have HBK := Lib.hid hbK
      have HXK := Lib.hid (hxK.cell (j := 0) (by simp))
      have HFK := Lib.hid hfK
      have HSK := Lib.hid hszK
      have HWK := Lib.hid hwK
      have hw1le := HG.out.size
      rw [HZ1.out] at hw1le
      have HW1L := Lib.hid hw1le
      clear hbK hxK hfK hszK hm0 hr0 hMlt hwK HR y0 y1 y2 y3 y4 y5 yB hw1le
      go_upto_region 13 with fail
      rw [HWK.out]
      go_wp2_with fail
      refine HCL.out.mono ?_
      rintro e wM ⟨ra, rc, rfl, hO, hbM⟩
      obtain ⟨bo, hbo⟩ : ∃ bo, wM.heap.size = bo := ⟨_, rfl⟩
      have hTT : wM.heap[wo.heap.size]? = wK.heap[wo.heap.size]? := hbM.block _ (by rw [HSK.out]; omega)
      have hMn : MainIs md wo.heap.size bo wo ra rc [] (placesL md) wM := by
        refine ⟨HBK.out.trans (hbM.mono (by rw [HSK.out]; omega)), ⟨none, 0, ?_, Own.nil _ _ _ _⟩, by rw [HSK.out] at hO; exact hO, fun g hg => by rw [← hbo]; exact (hO.lt hg).2, ⟨by have := hbM.size; rw [HSK.out] at this; omega, by omega⟩, fun x hx => hx, rfl, by simp; omega, ?_⟩
        · rw [World.cell?_of_block (show wM.heap[(⟨wo.heap.size, 0, none⟩ : Addr).block]? = _ from hTT)]; exact HXK.out
        · rw [World.frozen?_of_block (show wM.heap[(⟨wo.heap.size, 0, none⟩ : Addr).block]? = _ from hTT)]; exact HFK.out
      have HMN := Lib.hid hMn
      have HWKO : Hid (∀ W, Below wo.heap.size wo W → Below w.heap.size w W ∧ W.cell? ⟨w.heap.size + 1 + 1, 0, none⟩ = some (.map (some (w.heap.size + 1))) ∧ KM.MapIs plV okPl W (w.heap.size + 1) e0 ∧ RowsAll md W (w.heap.size + 1) e0) := fun W hb => by
        have hgg := HG.out.trans (below_grown hb (w.heap.size + 1))
        obtain ⟨-, -, -, -, -, -, yB⟩ := HX6.out W hgg
        exact ⟨HKP.out W hgg, yB, HMO.out.below hb HMLT.out, HRO.out.below hb⟩
      have egF : ∀ args w, (callFunc 53 args).run Tryz.prog w = .ok (.enter 53 args) w := enters_of Tryz.func53 (by kernel_rfl) rfl
      have HEG := Lib.hid egF
      clear hO hbM hTT hMn egF HCL HXK HFK HSK hbo
      go_wp2_with fail
      go_loopw [13] (fun r wr => ∃ out rest, r = .slice ra rest.length rc ∧ Hid (MainIs md wo.heap.size bo wo ra rc out rest wr)) (fun r _ => lenV r)
      case atStart => exact ⟨[], placesL md, rfl, HMN.out⟩
      case round =>
        obtain ⟨out, rest, rfl, HMI⟩ := hrel
        have hMI := HMI.out
        have hlen := hMI.len
        obtain ⟨hbw, yB, hmm1, hra1⟩ := HWKO.out wr hMI.below
        by_cases h0 : 0 < rest.length
        · have k1 : (0 : Int) < (rest.length : Int) := by omega
          have HIX := Lib.hid (ixPlS (· ∈ placesL md) (freeB (leansB md) (placesL md) out) 53 #[.pointer (some ⟨w.heap.size + 1 + 1, 0, none⟩), .pointer (some ⟨wo.heap.size, 0, none⟩)] HEG.out rest hMI.mem ra rc wr (by omega) hMI.restMem
            (freeCl md HF.out out (w.heap.size + 1 + 1) wo.heap.size (w.heap.size + 1) e0 wr (by omega) hMI.outAt yB hmm1 hra1))
          have HYB := Lib.hid hmm1
          cases hix : rest.findIdx? (freeB (leansB md) (placesL md) out) with
          | none =>
            have hv1 : ixOf (freeB (leansB md) (placesL md) out) rest = -1 := by unfold ixOf; rw [hix]
            rw [hv1] at HIX
            have hout : orderL md = out := by rw [← hMI.ord]; exact ord_stop hix
            have HOUT := Lib.hid hout
            have k2 : (-1 : Int) < 0 := by omega
            clear hMI hbw hmm1 hra1 yB hix hv1 hout
            go_wp2_with fail
            refine HIX.out.mono ?_
            rintro e w2 ⟨rfl, hb2⟩
            have hMI2 := HMI.out.step hb2
            obtain ⟨oa, oc, cT, hO⟩ := hMI2.outs
            have HQ : Hid (OrderedEnd md w (.returned (.slice oa out.length oc)) w2) := by
              refine ⟨(HWKO.out w2 hMI2.below).1, oa, oc, by rw [HOUT.out], ?_⟩
              rw [HOUT.out]
              exact (flat_own hO (by omega) (fun _ => rfl)).read
            clear hMI2 hO hb2 HIX
            go_wp2_with fail
            go_ret
            exact HQ.out
          | some i =>
            obtain ⟨hi1, -, -⟩ := List.findIdx?_eq_some_iff_getElem.1 hix
            have hv1 : ixOf (freeB (leansB md) (placesL md) out) rest = (i : Int) := by unfold ixOf; rw [hix]
            rw [hv1] at HIX
            have k2 : ¬ ((i : Int) < 0) := by omega
            have k3 : (0 : Int) ≤ (i : Int) := by omega
            have k4 : (i : Int) < (rest.length : Int) := by omega
            have HI1 := Lib.hid hi1
            have HFI := Lib.hid hix
            clear hMI hbw hmm1 hra1 yB hix hv1 hi1
            go_wp2_with fail
            refine HIX.out.mono ?_
            rintro e w2 ⟨rfl, hb2⟩
            have hMI2 := HMI.out.step hb2
            obtain ⟨g, hga, -, -, hcell, -⟩ := hMI2.left.cell (by omega)
            obtain ⟨oa, oc, cT, hO⟩ := hMI2.outs
            obtain ⟨p, hp⟩ : ∃ p, rest[i]'HI1.out = p := ⟨_, rfl⟩
            obtain ⟨g', oc', w3, hap, hcs, hfz, hOr0, hOr, hnext⟩ := hMI2.app rfl cT p
            subst hga
            have hcells : ∀ W, Own W (wo.heap.size + 1) 33 3 (some ⟨g, 0, none⟩) rc rest.length (rest.flatMap plC) → W.cell? ⟨g, i * 3, none⟩ = some (.int .i64 p.1) ∧ W.cell? ⟨g, i * 3 + 1, none⟩ = some (.int .i64 p.2.1) ∧ W.cell? ⟨g, i * 3 + 2, none⟩ = some (.int .i64 p.2.2) := fun W hW => by
              have := HI1.out
              obtain ⟨g2, hg2, -, -, hcell, -⟩ := hW.cell (by omega)
              cases hg2
              exact ⟨hcell (i * 3) _ (by rw [show i * 3 = i * 3 + 0 by omega, flatPl_at rest i 0 HI1.out (by omega), hp]; rfl), hcell (i * 3 + 1) _ (by rw [flatPl_at rest i 1 HI1.out (by omega), hp]; rfl), hcell (i * 3 + 2) _ (by rw [flatPl_at rest i 2 HI1.out (by omega), hp]; rfl)⟩
            have hS1 := hcells w2.drew hMI2.left.drew
            have hS2 := hcells _ (hMI2.left.drew.alloc (.cells #[.int .i64 p.1, .int .i64 p.2.1, .int .i64 p.2.2] 33))
            have hS3 := hcells _ hOr0
            have hS4 := hcells _ hOr
            have cT1 : w2.drew.cell? ⟨wo.heap.size, 0, none⟩ = some (.slice oa out.length oc) := cT
            have cT2 : (w2.drew.alloc (.cells #[.int .i64 p.1, .int .i64 p.2.1, .int .i64 p.2.2] 33)).cell? ⟨wo.heap.size, 0, none⟩ = some (.slice oa out.length oc) := Lib.cell?_alloc_some _ cT1
            have cT3 : (w2.alloc (.cells #[.int .i64 p.1, .int .i64 p.2.1, .int .i64 p.2.2] 33)).drew.cell? ⟨wo.heap.size, 0, none⟩ = some (.slice oa out.length oc) := cT2
            have HS1 := Lib.hid hS1
            have HS2 := Lib.hid hS2
            have HS3 := Lib.hid hS3
            have HS4 := Lib.hid hS4
            have HAP := Lib.hid hap
            have HDE := Lib.hid (fun W (h : Own W (wo.heap.size + 1) 33 3 (some ⟨g, 0, none⟩) rc rest.length (rest.flatMap plC)) => delete_walk rest i HI1.out (wo.heap.size + 1) g rc W (by omega) h)
            have HOR := Lib.hid hOr
            have HNX := Lib.hid (hnext i HI1.out · g rfl HFI.out hp)
            have hw1 : IntKind.i64.wrap ((i : Int) + 1) = (i : Int) + 1 := wrap_i64 (by omega) (by omega)
            clear hMI2 hO hb2 HIX hap hOr0 hOr hnext hcell hp hcells hS1 hS2 hS3 hS4
            go_upto_region 17 with fail
            refine wp_region_held_drew (S := (fun W' => W'.cell? ⟨g, i * 3, none⟩ = some (.int .i64 p.1) ∧ W'.cell? ⟨g, i * 3 + 1, none⟩ = some (.int .i64 p.2.1) ∧ W'.cell? ⟨g, i * 3 + 2, none⟩ = some (.int .i64 p.2.2))) (by kernel_rfl) HS1.out (fun hH => ?_)
            refine wpAnyH_take (i := 1) (oi := { dst := some 56, op := Op.move (Operand.tmp 13), type := 42, pos := "model.go:232", after := #[], guard := none }) (v := .slice (some ⟨g, 0, none⟩) rest.length rc) rfl (by kernel_rfl) (by kernel_rfl) (by kernel_rfl) (fun _ _ _ h => h) (Or.inl ⟨by rfl, fun W hS => by go_simp⟩) hH ?_
            simp only [Act.put, List.setIfInBounds_toArray, List.set_cons_zero, List.set_cons_succ]
            refine wpAnyH_take (i := 2) (oi := { dst := some 57, op := Op.move (Operand.tmp 14), type := 3, pos := "model.go:232", after := #[], guard := none }) (v := .int .i64 i) rfl (by kernel_rfl) (by kernel_rfl) (by kernel_rfl) (fun _ _ _ h => h) (Or.inl ⟨by rfl, fun W hS => by go_simp⟩) hH ?_
            simp only [Act.put, List.setIfInBounds_toArray, List.set_cons_zero, List.set_cons_succ]
            refine wpAnyH_take (i := 3) (oi := { dst := some 58, op := Op.indexAddr 42 (Operand.tmp 56) (Operand.tmp 57), type := 0, pos := "model.go:232", after := #[{ on := 1, ground := Ground.data }, { on := 2, ground := Ground.data }], guard := none }) (v := .pointer (some ⟨g, i * 3, none⟩)) rfl (by kernel_rfl) (by kernel_rfl) (by kernel_rfl) (fun _ _ _ h => h) (Or.inl ⟨by rfl, fun W hS => by go_simp⟩) hH ?_
            simp only [Act.put, List.setIfInBounds_toArray, List.set_cons_zero, List.set_cons_succ]
            refine wpAnyH_take (i := 4) (oi := { dst := some 59, op := Op.load 33 (Operand.tmp 58), type := 33, pos := "model.go:232", after := #[{ on := 3, ground := Ground.data }], guard := none }) (v := .agg #[.int .i64 p.1, .int .i64 p.2.1, .int .i64 p.2.2]) rfl (by kernel_rfl) (by kernel_rfl) (by kernel_rfl) (fun _ _ _ h => h) (Or.inl ⟨by rfl, fun W hS => by obtain ⟨e0, e1, e2⟩ := hS; go_simp⟩) hH ?_
            simp only [Act.put, List.setIfInBounds_toArray, List.set_cons_zero, List.set_cons_succ]
            refine wpAnyH_ready (rs := [0, 5]) (by kernel_rfl) (by simp) ?_
            refine AllReadyH.cons (o := { dst := some 55, op := Op.load 42 (Operand.tmp 12), type := 42, pos := "model.go:232", after := #[], guard := none }) rfl (fun K hK => ?_) (AllReadyH.cons (o := { dst := some 60, op := Op.buildSlice 42 1 #[(0, Operand.tmp 59)], type := 42, pos := "model.go:232", after := #[{ on := 4, ground := Ground.data }], guard := none }) rfl (fun K hK => ?_) AllReadyH.nil)
            · go_simp
              refine hK.out _ _ hH (fun hH => ?_)
              clear hK K
              try simp only [Act.put, List.setIfInBounds_toArray, List.set_cons_zero, List.set_cons_succ]
              refine wpAnyH_ready (rs := [5]) (by kernel_rfl) (by simp) ?_
              refine AllReadyH.cons (o := { dst := some 60, op := Op.buildSlice 42 1 #[(0, Operand.tmp 59)], type := 42, pos := "model.go:232", after := #[{ on := 4, ground := Ground.data }], guard := none }) rfl (fun K hK => ?_) AllReadyH.nil
              go_simp
              refine hK.out _ _ HS2.out (fun hH => ?_)
              clear hK K
              try simp only [Act.put, List.setIfInBounds_toArray, List.set_cons_zero, List.set_cons_succ]
              refine wpAnyH_ready (rs := [6]) (by kernel_rfl) (by simp) ?_
              refine AllReadyH.cons (o := { dst := some 61, op := Op.call { callee := Callee.builtin Builtin.append, args := #[Operand.tmp 55, Operand.tmp 60], argTypes := #[42, 42] }, type := 42, pos := "model.go:232", after := #[{ on := 0, ground := Ground.data }, { on := 5, ground := Ground.data }], guard := none }) rfl (fun K hK => ?_) AllReadyH.nil
              refine step_append_run (by rfl) (.tmp 55) (.tmp 60) 42 (by rfl) (by rfl) (by rfl) HAP.out ?_
              refine hK.out _ _ HS3.out (fun hH => ?_)
              clear hK K
              try simp only [Act.put, List.setIfInBounds_toArray, List.set_cons_zero, List.set_cons_succ]
              refine wpAnyH_ready (rs := [7]) (by kernel_rfl) (by simp) ?_
              refine AllReadyH.cons (o := { dst := none, op := Op.store 42 (Operand.tmp 12) (Operand.tmp 61), type := 0, pos := "model.go:232", after := #[{ on := 6, ground := Ground.data }, { on := 6, ground := Ground.chain }, { on := 0, ground := Ground.phase }, { on := 1, ground := Ground.phase }, { on := 2, ground := Ground.phase }, { on := 3, ground := Ground.phase }, { on := 4, ground := Ground.phase }, { on := 5, ground := Ground.phase }, { on := 6, ground := Ground.phase }], guard := none }) rfl (fun K hK => ?_) AllReadyH.nil
              go_simp
              refine hK.out _ _ HS4.out (fun hH => ?_)
              clear hK K
              try simp only [Act.put, List.setIfInBounds_toArray, List.set_cons_zero, List.set_cons_succ]
              refine wpAnyH_done (by kernel_rfl) ?_ _
              go_wp2_with fail
              refine (HDE.out _ HOR.out).mono ?_
              rintro e w5 ⟨rfl, hO5, hg5⟩
              have HM5 := Lib.hid (HNX.out w5 hO5 hg5)
              have HLT : Hid ((rest.eraseIdx i).length < rest.length) := by have := HI1.out; show _ < _; rw [List.length_eraseIdx_of_lt HI1.out]; omega
              clear hO5 hg5
              go_wp2_with fail
              exact ⟨⟨out ++ [p], rest.eraseIdx i, rfl, HM5⟩, by simp only [lenV]; exact HLT.out⟩
            · go_simp
              refine hK.out _ _ HS2.out (fun hH => ?_)
              clear hK K
              try simp only [Act.put, List.setIfInBounds_toArray, List.set_cons_zero, List.set_cons_succ]
              refine wpAnyH_ready (rs := [0]) (by kernel_rfl) (by simp) ?_
              refine AllReadyH.cons (o := { dst := some 55, op := Op.load 42 (Operand.tmp 12), type := 42, pos := "model.go:232", after := #[], guard := none }) rfl (fun K hK => ?_) AllReadyH.nil
              go_simp
              refine hK.out _ _ hH (fun hH => ?_)
              clear hK K
              try simp only [Act.put, List.setIfInBounds_toArray, List.set_cons_zero, List.set_cons_succ]
              refine wpAnyH_ready (rs := [6]) (by kernel_rfl) (by simp) ?_
              refine AllReadyH.cons (o := { dst := some 61, op := Op.call { callee := Callee.builtin Builtin.append, args := #[Operand.tmp 55, Operand.tmp 60], argTypes := #[42, 42] }, type := 42, pos := "model.go:232", after := #[{ on := 0, ground := Ground.data }, { on := 5, ground := Ground.data }], guard := none }) rfl (fun K hK => ?_) AllReadyH.nil
              refine step_append_run (by rfl) (.tmp 55) (.tmp 60) 42 (by rfl) (by rfl) (by rfl) HAP.out ?_
              refine hK.out _ _ HS3.out (fun hH => ?_)
              clear hK K
              try simp only [Act.put, List.setIfInBounds_toArray, List.set_cons_zero, List.set_cons_succ]
              refine wpAnyH_ready (rs := [7]) (by kernel_rfl) (by simp) ?_
              refine AllReadyH.cons (o := { dst := none, op := Op.store 42 (Operand.tmp 12) (Operand.tmp 61), type := 0, pos := "model.go:232", after := #[{ on := 6, ground := Ground.data }, { on := 6, ground := Ground.chain }, { on := 0, ground := Ground.phase }, { on := 1, ground := Ground.phase }, { on := 2, ground := Ground.phase }, { on := 3, ground := Ground.phase }, { on := 4, ground := Ground.phase }, { on := 5, ground := Ground.phase }, { on := 6, ground := Ground.phase }], guard := none }) rfl (fun K hK => ?_) AllReadyH.nil
              go_simp
              refine hK.out _ _ HS4.out (fun hH => ?_)
              clear hK K
              try simp only [Act.put, List.setIfInBounds_toArray, List.set_cons_zero, List.set_cons_succ]
              refine wpAnyH_done (by kernel_rfl) ?_ _
              go_wp2_with fail
              refine (HDE.out _ HOR.out).mono ?_
              rintro e w5 ⟨rfl, hO5, hg5⟩
              have HM5 := Lib.hid (HNX.out w5 hO5 hg5)
              have HLT : Hid ((rest.eraseIdx i).length < rest.length) := by have := HI1.out; show _ < _; rw [List.length_eraseIdx_of_lt HI1.out]; omega
              clear hO5 hg5
              go_wp2_with fail
              exact ⟨⟨out ++ [p], rest.eraseIdx i, rfl, HM5⟩, by simp only [lenV]; exact HLT.out⟩
        · have hr0 : rest = [] := List.eq_nil_of_length_eq_zero (by omega)
          subst hr0
          have hout : orderL md = out := by rw [← hMI.ord]; rfl
          obtain ⟨oa, oc, cT, hO⟩ := hMI.outs
          have HQ : Hid (OrderedEnd md w (.returned (.slice oa out.length oc)) wr) := by
            refine ⟨hbw, oa, oc, by rw [hout], ?_⟩
            rw [hout]
            exact (flat_own hO (by omega) (fun _ => rfl)).read
          clear hMI hO hbw hmm1 hra1 hout
          go_wp2_with fail
          go_ret
          exact HQ.out
end Go.Proofs.YtfbbkmdhnkmonaaGreatDoor
