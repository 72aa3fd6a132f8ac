/- package state: Model. -/
import Derived.Test.YtinijohmdljieaaGreatDoorAskE
namespace Go.Proofs.YtinijohmdljieaaGreatDoor
open Go.RowKit

theorem stModelTwin2 (md : ModelD) (hok : md.Ok) (a1 : Option Addr) (c1 : Nat) (a2 : Option Addr) (c2 : Nat) (a3 : Option Addr) (c3 : Nat) (a4 : Option Addr) (c4 : Nat) (a5 : Option Addr) (c5 : Nat) (w : World) (hM : ModelM false (From 0) w md ⟨a1, c1, a2, c2, a3, c3, a4, c4, a5, c5⟩) :
    Calls Tryz.prog 44 #[.agg #[.string md.name, .slice a1 md.attrs.length c1, .slice a2 md.events.length c2, .slice a3 md.stages.length c3, .slice a4 md.stones.length c4, .slice a5 md.apart.length c5]] w fun e w' =>
      ∃ b1 y1 b2 y2 b3 y3 b4 y4 b5 y5, e = .returned (.agg #[.string md.name, .slice b1 md.attrs.length y1, .slice b2 md.events.length y2, .slice b3 md.stages.length y3, .slice b4 md.stones.length y4, .slice b5 md.apart.length y5]) ∧ ModelM true (From w.heap.size) w' md ⟨b1, y1, b2, y2, b3, y3, b4, y4, b5, y5⟩ ∧ Below w.heap.size w w' := by
  refine (stModelTwin md hok a1 c1 a2 c2 a3 c3 a4 c4 a5 c5 w hM).mono ?_
  rintro e w' ⟨⟨b1, y1, b2, y2, b3, y3, b4, y4, b5, y5⟩, rfl, h1, h2⟩
  exact ⟨b1, y1, b2, y2, b3, y3, b4, y4, b5, y5, rfl, h1, h2⟩
theorem ret_stModel {r : Nat} {W : World} {a : Act} {u0 u1 u2 u3 u4 u5 u6 v : Value} {R : Ending → World → Prop} (hp : a.tmps.getD 6 undef = .pointer (some ⟨r, 0, none⟩)) (hv : a.tmps.getD 7 undef = v) (hd : a.defers = [])
    (h0 : W.cell? ⟨r, 0, none⟩ = some u0) (h1 : W.cell? ⟨r, 1, none⟩ = some u1) (h2 : W.cell? ⟨r, 2, none⟩ = some u2) (h3 : W.cell? ⟨r, 3, none⟩ = some u3) (h4 : W.cell? ⟨r, 4, none⟩ = some u4) (h5 : W.cell? ⟨r, 5, none⟩ = some u5) (h6 : W.cell? ⟨r, 6, none⟩ = some u6)
    (hR : R (.returned (.tuple #[.agg #[u0, u1, u2, u3, u4, u5, u6], v])) W) : bodyPost Tryz.prog Tryz.f12 R .ret a W := by
  refine bodyPost_ret ?_ hd hR
  subst hv
  have hp' : a.tmps[6]?.getD undef = .pointer (some ⟨r, 0, none⟩) := by simpa using hp
  simp [results, Tryz.results12, hp', go_sem, h0, h1, h2, h3, h4, h5, h6]
set_option maxHeartbeats 16000000 in
set_option maxRecDepth 100000 in
theorem stModel (sd : StateD) (hok : sd.Ok) (us : List Value) (name : ByteArray) (ver : Int) (w : World) (hm : MemL false (From 0) w sd.ds us) : Calls Tryz.prog 12 #[.agg us.toArray, .string name, .int .i64 ver] w (AnsEnd true (From w.heap.size) (verOf sd.models name ver).ds (verCode sd.models name ver) w) := by
  obtain ⟨a1, c1, a2, c2, a3, c3, a4, c4, a5, c5, a6, c6, a7, c7, a8, c8, rfl, hM⟩ := StateD.cells hm
  obtain ⟨_, _, b, off, hv, -, hC⟩ := rec_open hM.m
  injection hv with e1 e2 e3
  subst e1 e3
  have HB0 := Lib.hid (SR.start1 w 55 7 #[.int .i64 sd.clock, .string sd.secret, .slice a1 sd.users.length c1, .slice a2 sd.roles.length c2, .slice a3 sd.models.length c3, .slice a4 sd.cases.length c4, .slice a5 sd.timers.length c5, .slice a6 sd.works.length c6, .slice a7 sd.audit.length c7, .slice a8 sd.sess.length c8, .int .i64 sd.nc, .int .i64 sd.nw, .int .i64 sd.np, .int .i64 sd.nt] #[.string ⟨#[]⟩, .slice none 0 0, .slice none 0 0, .slice none 0 0, .slice none 0 0, .slice none 0 0, .int .i64 0] rfl rfl)
  have HC := Lib.hid hC
  have HMO := Lib.hid hok.mo
  generalize hQ : AnsEnd true (From w.heap.size) (verOf sd.models name ver).ds (verCode sd.models name ver) w = Q
  have HQ := Lib.hid hQ
  have hml := hok.ml
  clear hm hM hC e2 hQ hok
  go_enter Tryz.func12, Tryz.ntmps12
  go_upto_region 1 with fail
  revert HB0
  generalize ((w.alloc (.cells #[.int .i64 sd.clock, .string sd.secret, .slice a1 sd.users.length c1, .slice a2 sd.roles.length c2, .slice a3 sd.models.length c3, .slice a4 sd.cases.length c4, .slice a5 sd.timers.length c5, .slice a6 sd.works.length c6, .slice a7 sd.audit.length c7, .slice a8 sd.sess.length c8, .int .i64 sd.nc, .int .i64 sd.nw, .int .i64 sd.np, .int .i64 sd.nt] 35)).alloc (.cells #[.string ⟨#[]⟩, .slice none 0 0, .slice none 0 0, .slice none 0 0, .slice none 0 0, .slice none 0 0, .int .i64 0] 55)) = W0
  intro HB0
  have k4 := HB0.out.cp 4 _ rfl
  go_wp2_with fail
  clear k4
  go_loopw [8, 15] (fun fv i wr => ∃ m : Nat, m ≤ sd.models.length ∧ i = .int .i64 (m : Int) ∧ fv = .int .i64 (pick sd.models name ver m) ∧ Hid True ∧ Hid (SR 55 7 (w.heap.size + 1) w wr (stateC sd (.slice a1 sd.users.length c1) (.slice a2 sd.roles.length c2) (.slice a3 sd.models.length c3) (.slice a4 sd.cases.length c4) (.slice a5 sd.timers.length c5) (.slice a6 sd.works.length c6) (.slice a7 sd.audit.length c7) (.slice a8 sd.sess.length c8)) verZ)) (fun _ i _ => sd.models.length - (intOf i).toNat)
  case atStart => exact ⟨0, Nat.zero_le _, rfl, rfl, (show Hid _ from trivial), HB0.out⟩
  case round =>
    clear HB0
    obtain ⟨m, hmu, rfl, rfl, HV, HX⟩ := hrel
    have k4 := HX.out.cp 4 _ rfl
    by_cases hlt : m < sd.models.length
    · have i1 : (m : Int) < (sd.models.length : Int) := by omega
      have i2 : (0 : Int) ≤ (m : Int) := by omega
      have wr1 : IntKind.i64.wrap ((m : Int) + 1) = (m : Int) + 1 := wrap_i64 (by omega) (by omega)
      have HLT := Lib.hid hlt
      obtain ⟨rfl, -, hbl⟩ := HC.out.at0 (by omega)
      obtain ⟨us, hus, hcell⟩ := HC.out.row m hlt
      obtain ⟨mv, hu, -⟩ := VerD.cells hus
      subst hu
      have r0 : wr.cell? ⟨b, off + m * 7, none⟩ = some (.string sd.models[m].m.name) := cellBelow2 HX.out.below (hcell 0 _ rfl)
      have r1 : wr.cell? ⟨b, off + m * 7 + 1, none⟩ = some (.slice mv.a1 sd.models[m].m.attrs.length mv.c1) := cellBelow2 HX.out.below (hcell 1 _ rfl)
      have r2 : wr.cell? ⟨b, off + m * 7 + 2, none⟩ = some (.slice mv.a2 sd.models[m].m.events.length mv.c2) := cellBelow2 HX.out.below (hcell 2 _ rfl)
      have r3 : wr.cell? ⟨b, off + m * 7 + 3, none⟩ = some (.slice mv.a3 sd.models[m].m.stages.length mv.c3) := cellBelow2 HX.out.below (hcell 3 _ rfl)
      have r4 : wr.cell? ⟨b, off + m * 7 + 4, none⟩ = some (.slice mv.a4 sd.models[m].m.stones.length mv.c4) := cellBelow2 HX.out.below (hcell 4 _ rfl)
      have r5 : wr.cell? ⟨b, off + m * 7 + 5, none⟩ = some (.slice mv.a5 sd.models[m].m.apart.length mv.c5) := cellBelow2 HX.out.below (hcell 5 _ rfl)
      have r6 : wr.cell? ⟨b, off + m * 7 + 6, none⟩ = some (.int .i64 sd.models[m].v) := cellBelow2 HX.out.below (hcell 6 _ rfl)
      have HUS := Lib.hid hus
      have HBX := Lib.hid (ownBox wr #[.string sd.models[m].m.name, .slice mv.a1 sd.models[m].m.attrs.length mv.c1, .slice mv.a2 sd.models[m].m.events.length mv.c2, .slice mv.a3 sd.models[m].m.stages.length mv.c3, .slice mv.a4 sd.models[m].m.stones.length mv.c4, .slice mv.a5 sd.models[m].m.apart.length mv.c5, .int .i64 sd.models[m].v] 55 7 wr.heap.size (Nat.le_refl _) rfl)
      have HY := Lib.hid (HX.out.call ((Below.refl _ _).alloc (Nat.le_refl _) (.cells #[.string sd.models[m].m.name, .slice mv.a1 sd.models[m].m.attrs.length mv.c1, .slice mv.a2 sd.models[m].m.events.length mv.c2, .slice mv.a3 sd.models[m].m.stages.length mv.c3, .slice mv.a4 sd.models[m].m.stones.length mv.c4, .slice mv.a5 sd.models[m].m.apart.length mv.c5, .int .i64 sd.models[m].v] 55)))
      clear hus hcell
      go_upto_region 5 with fail
      clear k4 r0 r1 r2 r3 r4 r5 r6
      revert HBX HY
      generalize wr.alloc (.cells #[.string sd.models[m].m.name, .slice mv.a1 sd.models[m].m.attrs.length mv.c1, .slice mv.a2 sd.models[m].m.events.length mv.c2, .slice mv.a3 sd.models[m].m.stages.length mv.c3, .slice mv.a4 sd.models[m].m.stones.length mv.c4, .slice mv.a5 sd.models[m].m.apart.length mv.c5, .int .i64 sd.models[m].v] 55) = W1
      generalize wr.heap.size = g
      intro HBX HY
      clear HX
      have k4 := HY.out.cp 4 _ rfl
      have v0 := HBX.out.cellAt 0 rfl
      have v6 := HBX.out.cellAt 6 rfl
      have PB := Lib.hid (pick_lt sd.models name ver m)
      obtain ⟨f, hf⟩ : ∃ f, pick sd.models name ver m = f := ⟨_, rfl⟩
      rw [hf] at PB ⊢
      try rw [hf] at HV
      have HF := Lib.hid hf
      clear hf
      cases hn : sd.models[m].m.name.toList == name.toList with
      | false =>
        have HN := Lib.hid hn
        go_quiet (fail)
        go_wp2_with fail
        have htk : ¬ takes sd.models name ver (f) (sd.models[m]'HLT.out) := fun h => absurd (HN.out.symm.trans h.1) (by simp)
        refine ⟨⟨m + 1, HLT.out, by go_num, ?_, ?_, (show Hid _ from HY.out.call (by first | exact below_drewN (Below.refl _ _) _ | exact below_drewN (below_drewN (Below.refl _ _) _) _))⟩, by simp only [intOf]; have := HLT.out; omega⟩
        · rw [pick_no HLT.out (by rw [HF.out]; exact htk), HF.out]
        · exact (show Hid _ from trivial)
      | true =>
        have HN := Lib.hid hn
        by_cases hz : ver = 0
        · have HZ := Lib.hid hz
          have z1 : (ver == 0) = true := by rw [hz]; rfl
          have z2 : (ver != 0) = false := by rw [hz]; rfl
          clear hz
          rcases (show f = -1 ∨ 0 ≤ f by have := PB.out; omega) with rfl | h0
          · go_quiet (fail)
            go_wp2_with fail
            have htk :  takes sd.models name ver (-1) (sd.models[m]'HLT.out) := ⟨HN.out, .inl ⟨HZ.out, .inl (by omega)⟩⟩
            refine ⟨⟨m + 1, HLT.out, by go_num, ?_, ?_, (show Hid _ from HY.out.call (by first | exact below_drewN (Below.refl _ _) _ | exact below_drewN (below_drewN (Below.refl _ _) _) _))⟩, by simp only [intOf]; have := HLT.out; omega⟩
            · rw [pick_yes HLT.out (by rw [HF.out]; exact htk)]
            · exact (show Hid _ from trivial)
          · obtain ⟨k, rfl⟩ := Int.eq_ofNat_of_zero_le h0
            have hkl : k < sd.models.length := by have := PB.out; omega
            have i3 : (k : Int) < (sd.models.length : Int) := by omega
            have i4 : (0 : Int) ≤ (k : Int) := by omega
            have i5 : ¬ (k : Int) < 0 := by omega
            obtain ⟨us2, hus2, hcell2⟩ := HC.out.row k hkl
            obtain ⟨mv2, hu2, -⟩ := VerD.cells hus2
            subst hu2
            obtain ⟨vk, hvk, rk⟩ : ∃ vk, sd.models[k].v = vk ∧ W1.cell? ⟨b, off + k * 7 + 6, none⟩ = some (.int .i64 vk) := ⟨_, rfl, cellBelow2 HY.out.below (hcell2 6 _ rfl)⟩
            obtain ⟨vm, hvm, v7⟩ : ∃ vm, sd.models[m].v = vm ∧ W1.cell? ⟨g, 6, none⟩ = some (.int .i64 vm) := ⟨_, rfl, v6⟩
            clear v6
            have HKL := Lib.hid hkl
            have HG : Hid (sd.models[((k : Int)).toNat]? = some sd.models[k]) := by show _ = _; rw [Int.toNat_natCast, List.getElem?_eq_getElem hkl]; try rfl
            clear hus2 hcell2
            by_cases hgt : vk < vm
            · have HGT : Hid (sd.models[k].v < sd.models[m].v) := by show _ < _; omega
              have dgt : decide (vk < vm) = true := decide_eq_true hgt
              clear hvk hvm hgt
              go_quiet (fail)
              go_wp2_with fail
              have htk :  takes sd.models name ver ((k : Int)) (sd.models[m]'HLT.out) := ⟨HN.out, .inl ⟨HZ.out, .inr ⟨_, HG.out, HGT.out⟩⟩⟩
              refine ⟨⟨m + 1, HLT.out, by go_num, ?_, ?_, (show Hid _ from HY.out.call (by first | exact below_drewN (Below.refl _ _) _ | exact below_drewN (below_drewN (Below.refl _ _) _) _))⟩, by simp only [intOf]; have := HLT.out; omega⟩
              · rw [pick_yes HLT.out (by rw [HF.out]; exact htk)]
              · exact (show Hid _ from trivial)
            · have HGT : Hid (¬ sd.models[k].v < sd.models[m].v) := by show ¬ _ < _; omega
              have dgt : decide (vk < vm) = false := decide_eq_false hgt
              clear hvk hvm hgt
              go_quiet (fail)
              go_wp2_with fail
              have htk : ¬ takes sd.models name ver ((k : Int)) (sd.models[m]'HLT.out) := fun h => by
                  rcases h.2 with ⟨-, h1 | ⟨g2, h1, h2⟩⟩ | ⟨h1, -⟩
                  · omega
                  · rw [HG.out] at h1; injection h1 with h1; rw [← h1] at h2; have := HGT.out; omega
                  · exact h1 HZ.out
              refine ⟨⟨m + 1, HLT.out, by go_num, ?_, ?_, (show Hid _ from HY.out.call (by first | exact below_drewN (Below.refl _ _) _ | exact below_drewN (below_drewN (Below.refl _ _) _) _))⟩, by simp only [intOf]; have := HLT.out; omega⟩
              · rw [pick_no HLT.out (by rw [HF.out]; exact htk), HF.out]
              · exact (show Hid _ from trivial)
        · have HZ := Lib.hid hz
          have z1 : (ver == 0) = false := by rw [beq_eq_false_iff_ne]; exact hz
          have z2 : (ver != 0) = true := by rw [bne, z1]; rfl
          clear hz
          cases hve : sd.models[m].v == ver with
          | true =>
            have HE : Hid (sd.models[m].v = ver) := by show _ = _; simpa using hve
            rcases (show f = -1 ∨ 0 ≤ f by have := PB.out; omega) with rfl | h0
            · go_quiet (fail)
              go_wp2_with fail
              have htk :  takes sd.models name ver (-1) (sd.models[m]'HLT.out) := ⟨HN.out, .inr ⟨HZ.out, HE.out, by omega⟩⟩
              refine ⟨⟨m + 1, HLT.out, by go_num, ?_, ?_, (show Hid _ from HY.out.call (by first | exact below_drewN (Below.refl _ _) _ | exact below_drewN (below_drewN (Below.refl _ _) _) _))⟩, by simp only [intOf]; have := HLT.out; omega⟩
              · rw [pick_yes HLT.out (by rw [HF.out]; exact htk)]
              · exact (show Hid _ from trivial)
            · obtain ⟨k, rfl⟩ := Int.eq_ofNat_of_zero_le h0
              have i5 : ¬ (k : Int) < 0 := by omega
              go_quiet (fail)
              go_wp2_with fail
              have htk : ¬ takes sd.models name ver ((k : Int)) (sd.models[m]'HLT.out) := fun h => by
                  rcases h.2 with ⟨h1, -⟩ | ⟨-, -, h1⟩
                  · exact HZ.out h1
                  · omega
              refine ⟨⟨m + 1, HLT.out, by go_num, ?_, ?_, (show Hid _ from HY.out.call (by first | exact below_drewN (Below.refl _ _) _ | exact below_drewN (below_drewN (Below.refl _ _) _) _))⟩, by simp only [intOf]; have := HLT.out; omega⟩
              · rw [pick_no HLT.out (by rw [HF.out]; exact htk), HF.out]
              · exact (show Hid _ from trivial)
          | false =>
            have HE : Hid (sd.models[m].v ≠ ver) := by show _ ≠ _; simpa using hve
            go_quiet (fail)
            go_wp2_with fail
            have htk : ¬ takes sd.models name ver (f) (sd.models[m]'HLT.out) := fun h => by
                rcases h.2 with ⟨h1, -⟩ | ⟨-, h1, -⟩
                · exact HZ.out h1
                · exact HE.out h1
            refine ⟨⟨m + 1, HLT.out, by go_num, ?_, ?_, (show Hid _ from HY.out.call (by first | exact below_drewN (Below.refl _ _) _ | exact below_drewN (below_drewN (Below.refl _ _) _) _))⟩, by simp only [intOf]; have := HLT.out; omega⟩
            · rw [pick_no HLT.out (by rw [HF.out]; exact htk), HF.out]
            · exact (show Hid _ from trivial)
    · obtain rfl : m = sd.models.length := by omega
      have i1 : ¬ (sd.models.length : Int) < (sd.models.length : Int) := by omega
      have PB := Lib.hid (pick_lt sd.models name ver sd.models.length)
      obtain ⟨f, hf⟩ : ∃ f, pick sd.models name ver sd.models.length = f := ⟨_, rfl⟩
      rw [hf] at PB ⊢
      have q0 := HX.out.cq 0 _ rfl
      have q1 := HX.out.cq 1 _ rfl
      have q2 := HX.out.cq 2 _ rfl
      have q3 := HX.out.cq 3 _ rfl
      have q4 := HX.out.cq 4 _ rfl
      have q5 := HX.out.cq 5 _ rfl
      have q6 := HX.out.cq 6 _ rfl
      have hfz := HX.out.fq
      rcases (show f = -1 ∨ 0 ≤ f by have := PB.out; omega) with rfl | h0
      · obtain ⟨ho1, ho2⟩ := verOf_miss hf
        rw [ho1, ho2] at HQ
        clear hf ho1 ho2
        go_wp2_with fail
        have h7 := (((((((HX.out.setQ 0 (.string ⟨#[]⟩)).setQ 1 (.slice none 0 0)).setQ 2 (.slice none 0 0)).setQ 3 (.slice none 0 0)).setQ 4 (.slice none 0 0)).setQ 5 (.slice none 0 0)).setQ 6 (.int .i64 0))
        refine ret_stModel (r := w.heap.size + 1) rfl rfl rfl (h7.cq 0 _ rfl) (h7.cq 1 _ rfl) (h7.cq 2 _ rfl) (h7.cq 3 _ rfl) (h7.cq 4 _ rfl) (h7.cq 5 _ rfl) (h7.cq 6 _ rfl) ?_
        rw [← HQ.out]
        exact ⟨_, rfl, zeroVer_mem _ _ _, h7.below⟩
      · obtain ⟨k, rfl⟩ := Int.eq_ofNat_of_zero_le h0
        have hkl : k < sd.models.length := by have := PB.out; omega
        obtain ⟨ho1, ho2⟩ := verOf_hit hkl hf
        rw [ho1, ho2] at HQ
        have i3 : (k : Int) < (sd.models.length : Int) := by omega
        have i4 : (0 : Int) ≤ (k : Int) := by omega
        have i5 : ¬ (k : Int) < 0 := by omega
        obtain ⟨rfl, -, hbl⟩ := HC.out.at0 (by omega)
        obtain ⟨us, hus, hcell⟩ := HC.out.row k hkl
        obtain ⟨mv, hu, hMM⟩ := VerD.cells hus
        subst hu
        have r0 : wr.cell? ⟨b, off + k * 7, none⟩ = some (.string sd.models[k].m.name) := cellBelow2 HX.out.below (hcell 0 _ rfl)
        have r1 : wr.cell? ⟨b, off + k * 7 + 1, none⟩ = some (.slice mv.a1 sd.models[k].m.attrs.length mv.c1) := cellBelow2 HX.out.below (hcell 1 _ rfl)
        have r2 : wr.cell? ⟨b, off + k * 7 + 2, none⟩ = some (.slice mv.a2 sd.models[k].m.events.length mv.c2) := cellBelow2 HX.out.below (hcell 2 _ rfl)
        have r3 : wr.cell? ⟨b, off + k * 7 + 3, none⟩ = some (.slice mv.a3 sd.models[k].m.stages.length mv.c3) := cellBelow2 HX.out.below (hcell 3 _ rfl)
        have r4 : wr.cell? ⟨b, off + k * 7 + 4, none⟩ = some (.slice mv.a4 sd.models[k].m.stones.length mv.c4) := cellBelow2 HX.out.below (hcell 4 _ rfl)
        have r5 : wr.cell? ⟨b, off + k * 7 + 5, none⟩ = some (.slice mv.a5 sd.models[k].m.apart.length mv.c5) := cellBelow2 HX.out.below (hcell 5 _ rfl)
        have r6 : wr.cell? ⟨b, off + k * 7 + 6, none⟩ = some (.int .i64 sd.models[k].v) := cellBelow2 HX.out.below (hcell 6 _ rfl)
        have HUS := Lib.hid hus
        have HKL := Lib.hid hkl
        clear hus hcell hf ho1 ho2
        have HMM := Lib.hid hMM
        have HOK := Lib.hid (HMO.out _ (List.getElem_mem hkl))
        have HBX := Lib.hid (ownBox wr #[.string sd.models[k].m.name, .slice mv.a1 sd.models[k].m.attrs.length mv.c1, .slice mv.a2 sd.models[k].m.events.length mv.c2, .slice mv.a3 sd.models[k].m.stages.length mv.c3, .slice mv.a4 sd.models[k].m.stones.length mv.c4, .slice mv.a5 sd.models[k].m.apart.length mv.c5, .int .i64 sd.models[k].v] 55 7 wr.heap.size (Nat.le_refl _) rfl)
        have HY := Lib.hid (HX.out.call ((Below.refl _ _).alloc (Nat.le_refl _) (.cells #[.string sd.models[k].m.name, .slice mv.a1 sd.models[k].m.attrs.length mv.c1, .slice mv.a2 sd.models[k].m.events.length mv.c2, .slice mv.a3 sd.models[k].m.stages.length mv.c3, .slice mv.a4 sd.models[k].m.stones.length mv.c4, .slice mv.a5 sd.models[k].m.apart.length mv.c5, .int .i64 sd.models[k].v] 55)))
        have HRL := Lib.hid HX.out.lt
        have HW1 : Hid ((wr.alloc (.cells #[.string sd.models[k].m.name, .slice mv.a1 sd.models[k].m.attrs.length mv.c1, .slice mv.a2 sd.models[k].m.events.length mv.c2, .slice mv.a3 sd.models[k].m.stages.length mv.c3, .slice mv.a4 sd.models[k].m.stones.length mv.c4, .slice mv.a5 sd.models[k].m.apart.length mv.c5, .int .i64 sd.models[k].v] 55)).heap.size = wr.heap.size + 1) := by show _ = _; simp
        clear hMM q0 q1 q2 q3 q4 q5 q6 hfz
        go_upto_region 11 with fail
        clear r0 r1 r2 r3 r4 r5 r6
        revert HBX HY HRL HW1
        generalize wr.alloc (.cells #[.string sd.models[k].m.name, .slice mv.a1 sd.models[k].m.attrs.length mv.c1, .slice mv.a2 sd.models[k].m.events.length mv.c2, .slice mv.a3 sd.models[k].m.stages.length mv.c3, .slice mv.a4 sd.models[k].m.stones.length mv.c4, .slice mv.a5 sd.models[k].m.apart.length mv.c5, .int .i64 sd.models[k].v] 55) = W1
        generalize wr.heap.size = g
        intro HBX HY HRL HW1
        have HTW := Lib.hid (stModelTwin2 sd.models[k].m HOK.out mv.a1 mv.c1 mv.a2 mv.c2 mv.a3 mv.c3 mv.a4 mv.c4 mv.a5 mv.c5 W1 (HMM.out.grow HY.out.below))
        clear HX
        have v0 := HBX.out.cellAt 0 rfl
        have v1 := HBX.out.cellAt 1 rfl
        have v2 := HBX.out.cellAt 2 rfl
        have v3 := HBX.out.cellAt 3 rfl
        have v4 := HBX.out.cellAt 4 rfl
        have v5 := HBX.out.cellAt 5 rfl
        go_wp2_with fail
        refine HTW.out.mono ?_
        rintro e W2 ⟨b1, y1, b2, y2, b3, y3, b4, y4, b5, y5, rfl, hm2, hb2⟩
        have hBX2 := HBX.out.below hb2 (by rw [HW1.out]; omega)
        have hgl : g < W1.heap.size := by rw [HW1.out]; omega
        have hrl : w.heap.size + 1 < W1.heap.size := by have := HRL.out; omega
        have HX4 := Lib.hid ((((((hBX2.set (j := 0) (.string sd.models[k].m.name)).set (j := 1) (.slice b1 sd.models[k].m.attrs.length y1)).set (j := 2) (.slice b2 sd.models[k].m.events.length y2)).set (j := 3) (.slice b3 sd.models[k].m.stages.length y3)).set (j := 4) (.slice b4 sd.models[k].m.stones.length y4)).set (j := 5) (.slice b5 sd.models[k].m.apart.length y5))
        have HB4 := Lib.hid (((((((HY.out.call hb2).far HRL.out 0 (.string sd.models[k].m.name)).far HRL.out 1 (.slice b1 sd.models[k].m.attrs.length y1)).far HRL.out 2 (.slice b2 sd.models[k].m.events.length y2)).far HRL.out 3 (.slice b3 sd.models[k].m.stages.length y3)).far HRL.out 4 (.slice b4 sd.models[k].m.stones.length y4)).far HRL.out 5 (.slice b5 sd.models[k].m.apart.length y5))
        have hD : MemL true (From W1.heap.size) W2 sd.models[k].ds [.string sd.models[k].m.name, .slice b1 sd.models[k].m.attrs.length y1, .slice b2 sd.models[k].m.events.length y2, .slice b3 sd.models[k].m.stages.length y3, .slice b4 sd.models[k].m.stones.length y4, .slice b5 sd.models[k].m.apart.length y5, .int .i64 sd.models[k].v] := .cons (.atom _) (.cons hm2.attrs (.cons hm2.events (.cons hm2.stages (.cons hm2.stones (.cons hm2.apart (.cons (.atom _) (MemL.nil _ _ _)))))))
        have hD2 := ((((((hD.far hgl 0 (.string sd.models[k].m.name)).far hgl 1 (.slice b1 sd.models[k].m.attrs.length y1)).far hgl 2 (.slice b2 sd.models[k].m.events.length y2)).far hgl 3 (.slice b3 sd.models[k].m.stages.length y3)).far hgl 4 (.slice b4 sd.models[k].m.stones.length y4)).far hgl 5 (.slice b5 sd.models[k].m.apart.length y5))
        have HD := Lib.hid (((((((hD2.far hrl 0 (.string sd.models[k].m.name)).far hrl 1 (.slice b1 sd.models[k].m.attrs.length y1)).far hrl 2 (.slice b2 sd.models[k].m.events.length y2)).far hrl 3 (.slice b3 sd.models[k].m.stages.length y3)).far hrl 4 (.slice b4 sd.models[k].m.stones.length y4)).far hrl 5 (.slice b5 sd.models[k].m.apart.length y5)).far hrl 6 (.int .i64 sd.models[k].v))
        have HG := Lib.hid hrl
        have HBX2 := Lib.hid hBX2
        have c0 := HBX2.out.cellAt 0 rfl
        have d1 := HBX2.out.cellAt 1 rfl
        have d2 := HBX2.out.cellAt 2 rfl
        have d3 := HBX2.out.cellAt 3 rfl
        have d4 := HBX2.out.cellAt 4 rfl
        have d5 := HBX2.out.cellAt 5 rfl
        have hfg := fun j => HBX2.out.frozenAt j
        clear hD hD2 hm2 hb2 HTW hgl hrl hBX2 v0 v1 v2 v3 v4 v5
        go_upto_region 12 with fail
        clear c0 d1 d2 d3 d4 d5 hfg
        revert HX4 HB4 HD
        generalize ((((((W2.setCell ⟨g, 0, none⟩ (.string sd.models[k].m.name)).setCell ⟨g, 1, none⟩ (.slice b1 sd.models[k].m.attrs.length y1)).setCell ⟨g, 2, none⟩ (.slice b2 sd.models[k].m.events.length y2)).setCell ⟨g, 3, none⟩ (.slice b3 sd.models[k].m.stages.length y3)).setCell ⟨g, 4, none⟩ (.slice b4 sd.models[k].m.stones.length y4)).setCell ⟨g, 5, none⟩ (.slice b5 sd.models[k].m.apart.length y5)) = W5
        intro HX4 HB4 HD
        have s0 := HX4.out.cellAt 0 rfl
        have s1 := HX4.out.cellAt 1 rfl
        have s2 := HX4.out.cellAt 2 rfl
        have s3 := HX4.out.cellAt 3 rfl
        have s4 := HX4.out.cellAt 4 rfl
        have s5 := HX4.out.cellAt 5 rfl
        have s6 := HX4.out.cellAt 6 rfl
        have q0 := HB4.out.cq 0 _ rfl
        have q1 := HB4.out.cq 1 _ rfl
        have q2 := HB4.out.cq 2 _ rfl
        have q3 := HB4.out.cq 3 _ rfl
        have q4 := HB4.out.cq 4 _ rfl
        have q5 := HB4.out.cq 5 _ rfl
        have q6 := HB4.out.cq 6 _ rfl
        have hfz := HB4.out.fq
        go_wp2_with fail
        have h7 := (((((((HB4.out.setQ 0 (.string sd.models[k].m.name)).setQ 1 (.slice b1 sd.models[k].m.attrs.length y1)).setQ 2 (.slice b2 sd.models[k].m.events.length y2)).setQ 3 (.slice b3 sd.models[k].m.stages.length y3)).setQ 4 (.slice b4 sd.models[k].m.stones.length y4)).setQ 5 (.slice b5 sd.models[k].m.apart.length y5)).setQ 6 (.int .i64 sd.models[k].v))
        refine ret_stModel (r := w.heap.size + 1) rfl rfl rfl (h7.cq 0 _ rfl) (h7.cq 1 _ rfl) (h7.cq 2 _ rfl) (h7.cq 3 _ rfl) (h7.cq 4 _ rfl) (h7.cq 5 _ rfl) (h7.cq 6 _ rfl) ?_
        rw [← HQ.out]
        exact ⟨_, rfl, HD.out.weak fun b hb _ => by have : W1.heap.size ≤ b := hb; have := HG.out; show w.heap.size ≤ b; omega, h7.below⟩
end Go.Proofs.YtinijohmdljieaaGreatDoor
