/- docketref24.Model. -/
import Derived.Test.YtinijohmdljieaaGreatDoorH13
namespace Go.Proofs.YtinijohmdljieaaGreatDoor
open Go.RowKit

abbrev verZ : List Value := [.string ⟨#[]⟩, .slice none 0 0, .slice none 0 0, .slice none 0 0, .slice none 0 0, .slice none 0 0, .int .i64 0]
open Classical in
/-- the code of the answer -/
noncomputable def verCode (l : List VerD) (name : ByteArray) (ver : Int) : Int := if pick l name ver l.length < 0 then 6 else 0
theorem verOf_hit {l : List VerD} {name : ByteArray} {ver : Int} {m : Nat} (hm : m < l.length) (h : pick l name ver l.length = m) : verOf l name ver = l[m] ∧ verCode l name ver = 0 := by
  unfold verOf verCode
  rw [h, if_neg (by omega), if_neg (by omega), Int.toNat_natCast, List.getElem?_eq_getElem hm]
  exact ⟨rfl, rfl⟩
theorem verOf_miss {l : List VerD} {name : ByteArray} {ver : Int} (h : pick l name ver l.length = -1) : verOf l name ver = zeroVer ∧ verCode l name ver = 6 := by
  unfold verOf verCode
  rw [h, if_pos (by omega), if_pos (by omega)]
  exact ⟨rfl, rfl⟩
theorem ret_refModel {r : Nat} {W : World} {a : Act} {u0 u1 u2 u3 u4 u5 u6 v : Value} {R : Ending → World → Prop} (hp : a.tmps.getD 6 undef = .pointer (some ⟨r, 0, none⟩)) (hv : a.tmps.getD 7 undef = v) (hd : a.defers = [])
    (h0 : W.cell? ⟨r, 0, none⟩ = some u0) (h1 : W.cell? ⟨r, 1, none⟩ = some u1) (h2 : W.cell? ⟨r, 2, none⟩ = some u2) (h3 : W.cell? ⟨r, 3, none⟩ = some u3) (h4 : W.cell? ⟨r, 4, none⟩ = some u4) (h5 : W.cell? ⟨r, 5, none⟩ = some u5) (h6 : W.cell? ⟨r, 6, none⟩ = some u6)
    (hR : R (.returned (.tuple #[.agg #[u0, u1, u2, u3, u4, u5, u6], v])) W) : bodyPost Tryz.prog Tryz.f13 R .ret a W := by
  refine bodyPost_ret ?_ hd hR
  subst hv
  have hp' : a.tmps[6]?.getD undef = .pointer (some ⟨r, 0, none⟩) := by simpa using hp
  simp [results, Tryz.results13, hp', go_sem, h0, h1, h2, h3, h4, h5, h6]
set_option maxHeartbeats 16000000 in
set_option maxRecDepth 100000 in
theorem refModel (sd : StateD) (hok : sd.Ok) (us : List Value) (name : ByteArray) (ver : Int) (w : World) (hm : MemL false (From 0) w sd.ds us) : Calls Tryz.prog 13 #[.agg us.toArray, .string name, .int .i64 ver] w (AnsEnd false (From 0) (verOf sd.models name ver).ds (verCode sd.models name ver) w) := by
  obtain ⟨a1, c1, a2, c2, a3, c3, a4, c4, a5, c5, a6, c6, a7, c7, a8, c8, rfl, hM⟩ := StateD.cells hm
  obtain ⟨_, _, b, off, hv, -, hC⟩ := rec_open hM.m
  injection hv with e1 e2 e3
  subst e1 e3
  have HB0 := Lib.hid (SR.start1 w 55 7 #[.int .i64 sd.clock, .string sd.secret, .slice a1 sd.users.length c1, .slice a2 sd.roles.length c2, .slice a3 sd.models.length c3, .slice a4 sd.cases.length c4, .slice a5 sd.timers.length c5, .slice a6 sd.works.length c6, .slice a7 sd.audit.length c7, .slice a8 sd.sess.length c8, .int .i64 sd.nc, .int .i64 sd.nw, .int .i64 sd.np, .int .i64 sd.nt] #[.string ⟨#[]⟩, .slice none 0 0, .slice none 0 0, .slice none 0 0, .slice none 0 0, .slice none 0 0, .int .i64 0] rfl rfl)
  have HC := Lib.hid hC
  have HMO := Lib.hid hok.mo
  generalize hQ : AnsEnd false (From 0) (verOf sd.models name ver).ds (verCode sd.models name ver) w = Q
  have HQ := Lib.hid hQ
  have hml := hok.ml
  clear hm hM hC e2 hQ hok
  go_enter Tryz.func13, Tryz.ntmps13
  go_upto_region 1 with fail
  revert HB0
  generalize ((w.alloc (.cells #[.int .i64 sd.clock, .string sd.secret, .slice a1 sd.users.length c1, .slice a2 sd.roles.length c2, .slice a3 sd.models.length c3, .slice a4 sd.cases.length c4, .slice a5 sd.timers.length c5, .slice a6 sd.works.length c6, .slice a7 sd.audit.length c7, .slice a8 sd.sess.length c8, .int .i64 sd.nc, .int .i64 sd.nw, .int .i64 sd.np, .int .i64 sd.nt] 35)).alloc (.cells #[.string ⟨#[]⟩, .slice none 0 0, .slice none 0 0, .slice none 0 0, .slice none 0 0, .slice none 0 0, .int .i64 0] 55)) = W0
  intro HB0
  have k4 := HB0.out.cp 4 _ rfl
  go_wp2_with fail
  clear k4
  go_loopw [8, 9] (fun fv i wr => ∃ m : Nat, m ≤ sd.models.length ∧ i = .int .i64 (m : Int) ∧ fv = .int .i64 (pick sd.models name ver m) ∧ Hid (ver ≠ 0 → pick sd.models name ver m < 0) ∧ Hid (SR 55 7 (w.heap.size + 1) w wr (stateC sd (.slice a1 sd.users.length c1) (.slice a2 sd.roles.length c2) (.slice a3 sd.models.length c3) (.slice a4 sd.cases.length c4) (.slice a5 sd.timers.length c5) (.slice a6 sd.works.length c6) (.slice a7 sd.audit.length c7) (.slice a8 sd.sess.length c8)) verZ)) (fun _ i _ => sd.models.length - (intOf i).toNat)
  case atStart => exact ⟨0, Nat.zero_le _, rfl, rfl, (show Hid _ from fun _ => by simp only [pick]; omega), HB0.out⟩
  case round =>
    clear HB0
    obtain ⟨m, hmu, rfl, rfl, HV, HX⟩ := hrel
    have k4 := HX.out.cp 4 _ rfl
    by_cases hlt : m < sd.models.length
    · have i1 : (m : Int) < (sd.models.length : Int) := by omega
      have i2 : (0 : Int) ≤ (m : Int) := by omega
      have wr1 : IntKind.i64.wrap ((m : Int) + 1) = (m : Int) + 1 := wrap_i64 (by omega) (by omega)
      have HLT := Lib.hid hlt
      obtain ⟨rfl, -, hbl⟩ := HC.out.at0 (by omega)
      obtain ⟨us, hus, hcell⟩ := HC.out.row m hlt
      obtain ⟨mv, hu, -⟩ := VerD.cells hus
      subst hu
      have r0 : wr.cell? ⟨b, off + m * 7, none⟩ = some (.string sd.models[m].m.name) := cellBelow2 HX.out.below (hcell 0 _ rfl)
      have r1 : wr.cell? ⟨b, off + m * 7 + 1, none⟩ = some (.slice mv.a1 sd.models[m].m.attrs.length mv.c1) := cellBelow2 HX.out.below (hcell 1 _ rfl)
      have r2 : wr.cell? ⟨b, off + m * 7 + 2, none⟩ = some (.slice mv.a2 sd.models[m].m.events.length mv.c2) := cellBelow2 HX.out.below (hcell 2 _ rfl)
      have r3 : wr.cell? ⟨b, off + m * 7 + 3, none⟩ = some (.slice mv.a3 sd.models[m].m.stages.length mv.c3) := cellBelow2 HX.out.below (hcell 3 _ rfl)
      have r4 : wr.cell? ⟨b, off + m * 7 + 4, none⟩ = some (.slice mv.a4 sd.models[m].m.stones.length mv.c4) := cellBelow2 HX.out.below (hcell 4 _ rfl)
      have r5 : wr.cell? ⟨b, off + m * 7 + 5, none⟩ = some (.slice mv.a5 sd.models[m].m.apart.length mv.c5) := cellBelow2 HX.out.below (hcell 5 _ rfl)
      have r6 : wr.cell? ⟨b, off + m * 7 + 6, none⟩ = some (.int .i64 sd.models[m].v) := cellBelow2 HX.out.below (hcell 6 _ rfl)
      have HUS := Lib.hid hus
      have HBX := Lib.hid (ownBox wr #[.string sd.models[m].m.name, .slice mv.a1 sd.models[m].m.attrs.length mv.c1, .slice mv.a2 sd.models[m].m.events.length mv.c2, .slice mv.a3 sd.models[m].m.stages.length mv.c3, .slice mv.a4 sd.models[m].m.stones.length mv.c4, .slice mv.a5 sd.models[m].m.apart.length mv.c5, .int .i64 sd.models[m].v] 55 7 wr.heap.size (Nat.le_refl _) rfl)
      have HY := Lib.hid (HX.out.call ((Below.refl _ _).alloc (Nat.le_refl _) (.cells #[.string sd.models[m].m.name, .slice mv.a1 sd.models[m].m.attrs.length mv.c1, .slice mv.a2 sd.models[m].m.events.length mv.c2, .slice mv.a3 sd.models[m].m.stages.length mv.c3, .slice mv.a4 sd.models[m].m.stones.length mv.c4, .slice mv.a5 sd.models[m].m.apart.length mv.c5, .int .i64 sd.models[m].v] 55)))
      clear hus hcell
      go_upto_region 6 with fail
      clear k4 r0 r1 r2 r3 r4 r5 r6
      revert HBX HY
      generalize wr.alloc (.cells #[.string sd.models[m].m.name, .slice mv.a1 sd.models[m].m.attrs.length mv.c1, .slice mv.a2 sd.models[m].m.events.length mv.c2, .slice mv.a3 sd.models[m].m.stages.length mv.c3, .slice mv.a4 sd.models[m].m.stones.length mv.c4, .slice mv.a5 sd.models[m].m.apart.length mv.c5, .int .i64 sd.models[m].v] 55) = W1
      generalize wr.heap.size = g
      intro HBX HY
      clear HX
      have k4 := HY.out.cp 4 _ rfl
      have v0 := HBX.out.cellAt 0 rfl
      have v6 := HBX.out.cellAt 6 rfl
      have PB := Lib.hid (pick_lt sd.models name ver m)
      obtain ⟨f, hf⟩ : ∃ f, pick sd.models name ver m = f := ⟨_, rfl⟩
      rw [hf] at PB ⊢
      try rw [hf] at HV
      have HF := Lib.hid hf
      clear hf
      cases hn : sd.models[m].m.name.toList == name.toList with
      | false =>
        have hn2 : (sd.models[m].m.name.toList != name.toList) = true := by rw [bne, hn]; rfl
        have HN := Lib.hid hn
        go_wp2_with fail
        have htk : ¬ takes sd.models name ver (f) (sd.models[m]'HLT.out) := fun h => absurd (HN.out.symm.trans h.1) (by simp)
        refine ⟨⟨m + 1, HLT.out, by go_num, ?_, ?_, (show Hid _ from HY.out.call (Below.refl _ _))⟩, by simp only [intOf]; have := HLT.out; omega⟩
        · rw [pick_no HLT.out (by rw [HF.out]; exact htk), HF.out]
        · exact (show Hid _ from fun hv => by rw [pick_no HLT.out (by rw [HF.out]; exact htk), HF.out]; exact HV.out hv)
      | true =>
        have hn2 : (sd.models[m].m.name.toList != name.toList) = false := by rw [bne, hn]; rfl
        have HN := Lib.hid hn
        by_cases hz : ver = 0
        · have HZ := Lib.hid hz
          have z1 : (ver == 0) = true := by rw [hz]; rfl
          have z2 : (ver != 0) = false := by rw [hz]; rfl
          clear hz
          rcases (show f = -1 ∨ 0 ≤ f by have := PB.out; omega) with rfl | h0
          · go_wp2_with fail
            go_quiet (fail)
            go_wp2_with fail
            try (go_quiet (fail); go_wp2_with fail)
            have htk :  takes sd.models name ver (-1) (sd.models[m]'HLT.out) := ⟨HN.out, .inl ⟨HZ.out, .inl (by omega)⟩⟩
            refine ⟨⟨m + 1, HLT.out, by go_num, ?_, ?_, (show Hid _ from HY.out.call (by first | exact below_drewN (Below.refl _ _) _ | exact below_drewN (below_drewN (Below.refl _ _) _) _))⟩, by simp only [intOf]; have := HLT.out; omega⟩
            · rw [pick_yes HLT.out (by rw [HF.out]; exact htk)]
            · exact (show Hid _ from fun hv => absurd HZ.out hv)
          · obtain ⟨k, rfl⟩ := Int.eq_ofNat_of_zero_le h0
            have hkl : k < sd.models.length := by have := PB.out; omega
            have i3 : (k : Int) < (sd.models.length : Int) := by omega
            have i4 : (0 : Int) ≤ (k : Int) := by omega
            have i5 : ¬ (k : Int) < 0 := by omega
            obtain ⟨us2, hus2, hcell2⟩ := HC.out.row k hkl
            obtain ⟨mv2, hu2, -⟩ := VerD.cells hus2
            subst hu2
            have rk : W1.cell? ⟨b, off + k * 7 + 6, none⟩ = some (.int .i64 sd.models[k].v) := cellBelow2 HY.out.below (hcell2 6 _ rfl)
            have HKL := Lib.hid hkl
            have HG : Hid (sd.models[((k : Int)).toNat]? = some sd.models[k]) := by show _ = _; rw [Int.toNat_natCast, List.getElem?_eq_getElem hkl]; try rfl
            clear hus2 hcell2
            by_cases hgt : sd.models[k].v < sd.models[m].v
            · have HGT := Lib.hid hgt
              go_wp2_with fail
              go_quiet (fail)
              go_wp2_with fail
              try (go_quiet (fail); go_wp2_with fail)
              have htk :  takes sd.models name ver ((k : Int)) (sd.models[m]'HLT.out) := ⟨HN.out, .inl ⟨HZ.out, .inr ⟨_, HG.out, HGT.out⟩⟩⟩
              refine ⟨⟨m + 1, HLT.out, by go_num, ?_, ?_, (show Hid _ from HY.out.call (by first | exact below_drewN (Below.refl _ _) _ | exact below_drewN (below_drewN (Below.refl _ _) _) _))⟩, by simp only [intOf]; have := HLT.out; omega⟩
              · rw [pick_yes HLT.out (by rw [HF.out]; exact htk)]
              · exact (show Hid _ from fun hv => absurd HZ.out hv)
            · have HGT := Lib.hid hgt
              go_wp2_with fail
              go_quiet (fail)
              go_wp2_with fail
              try (go_quiet (fail); go_wp2_with fail)
              have htk : ¬ takes sd.models name ver ((k : Int)) (sd.models[m]'HLT.out) := fun h => by
                  rcases h.2 with ⟨-, h1 | ⟨g2, h1, h2⟩⟩ | ⟨h1, -⟩
                  · omega
                  · rw [HG.out] at h1; injection h1 with h1; rw [← h1] at h2; have := HGT.out; omega
                  · exact h1 HZ.out
              refine ⟨⟨m + 1, HLT.out, by go_num, ?_, ?_, (show Hid _ from HY.out.call (by first | exact below_drewN (Below.refl _ _) _ | exact below_drewN (below_drewN (Below.refl _ _) _) _))⟩, by simp only [intOf]; have := HLT.out; omega⟩
              · rw [pick_no HLT.out (by rw [HF.out]; exact htk), HF.out]
              · exact (show Hid _ from fun hv => by rw [pick_no HLT.out (by rw [HF.out]; exact htk), HF.out]; exact HV.out hv)
        · have HZ := Lib.hid hz
          have z1 : (ver == 0) = false := by rw [beq_eq_false_iff_ne]; exact hz
          have z2 : (ver != 0) = true := by rw [bne, z1]; rfl
          clear hz
          cases hve : sd.models[m].v == ver with
          | true =>
            have HE : Hid (sd.models[m].v = ver) := by show _ = _; simpa using hve
            have hp1 : pick sd.models name ver (m + 1) = m := pick_yes HLT.out (by rw [HF.out]; exact ⟨HN.out, .inr ⟨HZ.out, HE.out, HV.out HZ.out⟩⟩)
            have hp2 : pick sd.models name ver sd.models.length = m := by rw [← hp1]; exact pick_found HZ.out HLT.out (by rw [hp1]; omega)
            obtain ⟨ho1, ho2⟩ := verOf_hit HLT.out hp2
            rw [ho1, ho2] at HQ
            clear hp1 hp2 ho1 ho2
            have v1 := HBX.out.cellAt 1 rfl
            have v2 := HBX.out.cellAt 2 rfl
            have v3 := HBX.out.cellAt 3 rfl
            have v4 := HBX.out.cellAt 4 rfl
            have v5 := HBX.out.cellAt 5 rfl
            have q0 := HY.out.cq 0 _ rfl
            have q1 := HY.out.cq 1 _ rfl
            have q2 := HY.out.cq 2 _ rfl
            have q3 := HY.out.cq 3 _ rfl
            have q4 := HY.out.cq 4 _ rfl
            have q5 := HY.out.cq 5 _ rfl
            have q6 := HY.out.cq 6 _ rfl
            have hfz := HY.out.fq
            go_wp2_with fail
            have h7 := (((((((HY.out.setQ 0 (.string sd.models[m].m.name)).setQ 1 (.slice mv.a1 sd.models[m].m.attrs.length mv.c1)).setQ 2 (.slice mv.a2 sd.models[m].m.events.length mv.c2)).setQ 3 (.slice mv.a3 sd.models[m].m.stages.length mv.c3)).setQ 4 (.slice mv.a4 sd.models[m].m.stones.length mv.c4)).setQ 5 (.slice mv.a5 sd.models[m].m.apart.length mv.c5)).setQ 6 (.int .i64 sd.models[m].v))
            refine ret_refModel (r := w.heap.size + 1) rfl rfl rfl (h7.cq 0 _ rfl) (h7.cq 1 _ rfl) (h7.cq 2 _ rfl) (h7.cq 3 _ rfl) (h7.cq 4 _ rfl) (h7.cq 5 _ rfl) (h7.cq 6 _ rfl) ?_
            rw [← HQ.out]
            exact ⟨_, rfl, HUS.out.grow h7.below, h7.below⟩
          | false =>
            have HE : Hid (sd.models[m].v ≠ ver) := by show _ ≠ _; simpa using hve
            go_wp2_with fail
            go_quiet (fail)
            go_wp2_with fail
            try (go_quiet (fail); go_wp2_with fail)
            have htk : ¬ takes sd.models name ver (f) (sd.models[m]'HLT.out) := fun h => by
                rcases h.2 with ⟨h1, -⟩ | ⟨-, h1, -⟩
                · exact HZ.out h1
                · exact HE.out h1
            refine ⟨⟨m + 1, HLT.out, by go_num, ?_, ?_, (show Hid _ from HY.out.call (by first | exact below_drewN (Below.refl _ _) _ | exact below_drewN (below_drewN (Below.refl _ _) _) _))⟩, by simp only [intOf]; have := HLT.out; omega⟩
            · rw [pick_no HLT.out (by rw [HF.out]; exact htk), HF.out]
            · exact (show Hid _ from fun hv => by rw [pick_no HLT.out (by rw [HF.out]; exact htk), HF.out]; exact HV.out hv)
    · obtain rfl : m = sd.models.length := by omega
      have i1 : ¬ (sd.models.length : Int) < (sd.models.length : Int) := by omega
      have PB := Lib.hid (pick_lt sd.models name ver sd.models.length)
      obtain ⟨f, hf⟩ : ∃ f, pick sd.models name ver sd.models.length = f := ⟨_, rfl⟩
      rw [hf] at PB ⊢
      have q0 := HX.out.cq 0 _ rfl
      have q1 := HX.out.cq 1 _ rfl
      have q2 := HX.out.cq 2 _ rfl
      have q3 := HX.out.cq 3 _ rfl
      have q4 := HX.out.cq 4 _ rfl
      have q5 := HX.out.cq 5 _ rfl
      have q6 := HX.out.cq 6 _ rfl
      have hfz := HX.out.fq
      rcases (show f = -1 ∨ 0 ≤ f by have := PB.out; omega) with rfl | h0
      · obtain ⟨ho1, ho2⟩ := verOf_miss hf
        rw [ho1, ho2] at HQ
        clear hf ho1 ho2
        go_wp2_with fail
        have h7 := (((((((HX.out.setQ 0 (.string ⟨#[]⟩)).setQ 1 (.slice none 0 0)).setQ 2 (.slice none 0 0)).setQ 3 (.slice none 0 0)).setQ 4 (.slice none 0 0)).setQ 5 (.slice none 0 0)).setQ 6 (.int .i64 0))
        refine ret_refModel (r := w.heap.size + 1) rfl rfl rfl (h7.cq 0 _ rfl) (h7.cq 1 _ rfl) (h7.cq 2 _ rfl) (h7.cq 3 _ rfl) (h7.cq 4 _ rfl) (h7.cq 5 _ rfl) (h7.cq 6 _ rfl) ?_
        rw [← HQ.out]
        exact ⟨_, rfl, zeroVer_mem _ _ _, h7.below⟩
      · obtain ⟨k, rfl⟩ := Int.eq_ofNat_of_zero_le h0
        have hkl : k < sd.models.length := by have := PB.out; omega
        obtain ⟨ho1, ho2⟩ := verOf_hit hkl hf
        rw [ho1, ho2] at HQ
        have i3 : (k : Int) < (sd.models.length : Int) := by omega
        have i4 : (0 : Int) ≤ (k : Int) := by omega
        have i5 : ¬ (k : Int) < 0 := by omega
        obtain ⟨rfl, -, hbl⟩ := HC.out.at0 (by omega)
        obtain ⟨us, hus, hcell⟩ := HC.out.row k hkl
        obtain ⟨mv, hu, hMM⟩ := VerD.cells hus
        subst hu
        have r0 : wr.cell? ⟨b, off + k * 7, none⟩ = some (.string sd.models[k].m.name) := cellBelow2 HX.out.below (hcell 0 _ rfl)
        have r1 : wr.cell? ⟨b, off + k * 7 + 1, none⟩ = some (.slice mv.a1 sd.models[k].m.attrs.length mv.c1) := cellBelow2 HX.out.below (hcell 1 _ rfl)
        have r2 : wr.cell? ⟨b, off + k * 7 + 2, none⟩ = some (.slice mv.a2 sd.models[k].m.events.length mv.c2) := cellBelow2 HX.out.below (hcell 2 _ rfl)
        have r3 : wr.cell? ⟨b, off + k * 7 + 3, none⟩ = some (.slice mv.a3 sd.models[k].m.stages.length mv.c3) := cellBelow2 HX.out.below (hcell 3 _ rfl)
        have r4 : wr.cell? ⟨b, off + k * 7 + 4, none⟩ = some (.slice mv.a4 sd.models[k].m.stones.length mv.c4) := cellBelow2 HX.out.below (hcell 4 _ rfl)
        have r5 : wr.cell? ⟨b, off + k * 7 + 5, none⟩ = some (.slice mv.a5 sd.models[k].m.apart.length mv.c5) := cellBelow2 HX.out.below (hcell 5 _ rfl)
        have r6 : wr.cell? ⟨b, off + k * 7 + 6, none⟩ = some (.int .i64 sd.models[k].v) := cellBelow2 HX.out.below (hcell 6 _ rfl)
        have HUS := Lib.hid hus
        have HKL := Lib.hid hkl
        clear hus hcell hf ho1 ho2
        clear hMM
        go_wp2_with fail
        have h7 := (((((((HX.out.setQ 0 (.string sd.models[k].m.name)).setQ 1 (.slice mv.a1 sd.models[k].m.attrs.length mv.c1)).setQ 2 (.slice mv.a2 sd.models[k].m.events.length mv.c2)).setQ 3 (.slice mv.a3 sd.models[k].m.stages.length mv.c3)).setQ 4 (.slice mv.a4 sd.models[k].m.stones.length mv.c4)).setQ 5 (.slice mv.a5 sd.models[k].m.apart.length mv.c5)).setQ 6 (.int .i64 sd.models[k].v))
        refine ret_refModel (r := w.heap.size + 1) rfl rfl rfl (h7.cq 0 _ rfl) (h7.cq 1 _ rfl) (h7.cq 2 _ rfl) (h7.cq 3 _ rfl) (h7.cq 4 _ rfl) (h7.cq 5 _ rfl) (h7.cq 6 _ rfl) ?_
        rw [← HQ.out]
        exact ⟨_, rfl, HUS.out.grow h7.below, h7.below⟩
end Go.Proofs.YtinijohmdljieaaGreatDoor
