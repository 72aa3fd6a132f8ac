/- docketref24.Great answers some truth. -/
import Derived.Test.YtinijohmdljieaaGreatDoorH10
namespace Go.Proofs.YtinijohmdljieaaGreatDoor
open Go.RowKit

def BoolEnd (w : World) (e : Ending) (w' : World) : Prop := ∃ g : Bool, e = .returned (.bool g) ∧ Below w.heap.size w w'
set_option maxHeartbeats 16000000 in
set_option maxRecDepth 100000 in
theorem greatM (sd : StateD) (hok : sd.Ok) (us : List Value) (w : World) (hm : MemL false (From 0) w sd.ds us) : Calls Tryz.prog 5 #[.agg us.toArray] w (BoolEnd w) := by
  obtain ⟨a1, c1, a2, c2, a3, c3, a4, c4, a5, c5, a6, c6, a7, c7, a8, c8, rfl, hM⟩ := StateD.cells hm
  obtain ⟨_, _, b2, o2, hv2, -, hS2⟩ := rec_open hM.r
  obtain ⟨_, _, b3, o3, hv3, -, hS3⟩ := rec_open hM.m
  obtain ⟨_, _, b4, o4, hv4, -, hS4⟩ := rec_open hM.c
  obtain ⟨_, _, b7, o7, hv7, -, hS7⟩ := flat_open hM.a
  injection hv2 with h2 h2' h2''
  injection hv3 with h3 h3' h3''
  injection hv4 with h4 h4' h4''
  injection hv7 with h7 h7' h7''
  subst h2 h2'' h3 h3'' h4 h4'' h7 h7''
  have H2 := Lib.hid hS2
  have H3 := Lib.hid hS3
  have H4 := Lib.hid hS4
  have H7 := Lib.hid hS7
  have HO := Lib.hid hok
  have HB0 := Lib.hid (B1.start w 35 14 #[.int .i64 sd.clock, .string sd.secret, .slice a1 sd.users.length c1, .slice a2 sd.roles.length c2, .slice a3 sd.models.length c3, .slice a4 sd.cases.length c4, .slice a5 sd.timers.length c5, .slice a6 sd.works.length c6, .slice a7 sd.audit.length c7, .slice a8 sd.sess.length c8, .int .i64 sd.nc, .int .i64 sd.nw, .int .i64 sd.np, .int .i64 sd.nt] rfl)
  clear hm hM hS2 hS3 hS4 hS7 hok h2' h3' h4' h7'
  go_enter Tryz.func5, Tryz.ntmps5
  go_upto_region 1 with fail
  revert HB0
  generalize w.alloc (.cells #[.int .i64 sd.clock, .string sd.secret, .slice a1 sd.users.length c1, .slice a2 sd.roles.length c2, .slice a3 sd.models.length c3, .slice a4 sd.cases.length c4, .slice a5 sd.timers.length c5, .slice a6 sd.works.length c6, .slice a7 sd.audit.length c7, .slice a8 sd.sess.length c8, .int .i64 sd.nc, .int .i64 sd.nw, .int .i64 sd.np, .int .i64 sd.nt] 35) = W0
  intro HB0
  have k2 := HB0.out.cp 2 _ rfl
  have k3 := HB0.out.cp 3 _ rfl
  have k4 := HB0.out.cp 4 _ rfl
  have k5 := HB0.out.cp 5 _ rfl
  have k6 := HB0.out.cp 6 _ rfl
  have k7 := HB0.out.cp 7 _ rfl
  have k8 := HB0.out.cp 8 _ rfl
  have k9 := HB0.out.cp 9 _ rfl
  by_cases g0 : 80 < sd.users.length
  · have d0 : decide (80 < (sd.users.length : Int)) = true := decide_eq_true (by omega)
    clear g0
    go_wp2_with fail
    go_ret
    exact ⟨_, rfl, HB0.out.below⟩
  have d0 : decide (80 < (sd.users.length : Int)) = false := decide_eq_false (by omega)
  clear g0
  by_cases g1 : 40 < sd.roles.length
  · have d1 : decide (40 < (sd.roles.length : Int)) = true := decide_eq_true (by omega)
    clear g1
    go_wp2_with fail
    go_ret
    exact ⟨_, rfl, HB0.out.below⟩
  have d1 : decide (40 < (sd.roles.length : Int)) = false := decide_eq_false (by omega)
  clear g1
  by_cases g2 : 40 < sd.models.length
  · have d2 : decide (40 < (sd.models.length : Int)) = true := decide_eq_true (by omega)
    clear g2
    go_wp2_with fail
    go_ret
    exact ⟨_, rfl, HB0.out.below⟩
  have d2 : decide (40 < (sd.models.length : Int)) = false := decide_eq_false (by omega)
  clear g2
  by_cases g3 : 300 < sd.cases.length
  · have d3 : decide (300 < (sd.cases.length : Int)) = true := decide_eq_true (by omega)
    clear g3
    go_wp2_with fail
    go_ret
    exact ⟨_, rfl, HB0.out.below⟩
  have d3 : decide (300 < (sd.cases.length : Int)) = false := decide_eq_false (by omega)
  clear g3
  by_cases g4 : 300 < sd.timers.length
  · have d4 : decide (300 < (sd.timers.length : Int)) = true := decide_eq_true (by omega)
    clear g4
    go_wp2_with fail
    go_ret
    exact ⟨_, rfl, HB0.out.below⟩
  have d4 : decide (300 < (sd.timers.length : Int)) = false := decide_eq_false (by omega)
  clear g4
  by_cases g5 : 600 < sd.works.length
  · have d5 : decide (600 < (sd.works.length : Int)) = true := decide_eq_true (by omega)
    clear g5
    go_wp2_with fail
    go_ret
    exact ⟨_, rfl, HB0.out.below⟩
  have d5 : decide (600 < (sd.works.length : Int)) = false := decide_eq_false (by omega)
  clear g5
  by_cases g6 : 200 < sd.audit.length
  · have d6 : decide (200 < (sd.audit.length : Int)) = true := decide_eq_true (by omega)
    clear g6
    go_wp2_with fail
    go_ret
    exact ⟨_, rfl, HB0.out.below⟩
  have d6 : decide (200 < (sd.audit.length : Int)) = false := decide_eq_false (by omega)
  clear g6
  by_cases g7 : 80 < sd.sess.length
  · have d7 : decide (80 < (sd.sess.length : Int)) = true := decide_eq_true (by omega)
    clear g7
    go_wp2_with fail
    go_ret
    exact ⟨_, rfl, HB0.out.below⟩
  have d7 : decide (80 < (sd.sess.length : Int)) = false := decide_eq_false (by omega)
  clear g7
  clear k5 k3
  have k4 := HB0.out.cp 4 _ rfl
  have k3 := HB0.out.cp 3 _ rfl
  have k5 := HB0.out.cp 5 _ rfl
  go_wp2_with fail
  clear k2 k3 k4 k5 k6 k7 k8 k9 d0 d1 d2 d3 d4 d5 d6 d7
  go_loopw [4, 3] (fun j x wx => ∃ (m : Nat) (N : Int), m ≤ sd.models.length ∧ j = .int .i64 m ∧ x = .int .i64 N ∧ Hid (B1 35 14 w wx (stateC sd (.slice a1 sd.users.length c1) (.slice a2 sd.roles.length c2) (.slice a3 sd.models.length c3) (.slice a4 sd.cases.length c4) (.slice a5 sd.timers.length c5) (.slice a6 sd.works.length c6) (.slice a7 sd.audit.length c7) (.slice a8 sd.sess.length c8)))) (fun j _ _ => sd.models.length - (intOf j).toNat)
  case atStart => exact ⟨0, _, Nat.zero_le _, rfl, rfl, HB0.out⟩
  case round =>
    clear HB0
    obtain ⟨m, N, hml, rfl, rfl, HS⟩ := hrel
    have k4 := HS.out.cp 4 _ rfl
    by_cases hlt : m < sd.models.length
    · obtain ⟨rfl, -, -⟩ := H3.out.at0 (by omega)
      obtain ⟨us0, hr, hcell⟩ := H3.out.row m hlt
      have hso := HO.out.mo _ (List.getElem_mem hlt)
      obtain ⟨st, hst⟩ : ∃ st, sd.models[m] = st := ⟨_, rfl⟩
      rw [hst] at hr hso
      obtain ⟨⟨x1, y1, x2, y2, x3, y3, x4, y4, x5, y5⟩, rfl, hg⟩ := VerD.cells hr
      have HC1 := Lib.hid (fun W (hb : Below w.heap.size w W) => weightM st.m hso x1 y1 x2 y2 x3 y3 x4 y4 x5 y5 W (hg.grow hb))
      have q0 := cellBelow2 HS.out.below (hcell 0 _ rfl)
      have q1 := cellBelow2 HS.out.below (hcell 1 _ rfl)
      have q2 := cellBelow2 HS.out.below (hcell 2 _ rfl)
      have q3 := cellBelow2 HS.out.below (hcell 3 _ rfl)
      have q4 := cellBelow2 HS.out.below (hcell 4 _ rfl)
      have q5 := cellBelow2 HS.out.below (hcell 5 _ rfl)
      rw [Nat.add_zero] at q0
      have i1 : (0 : Int) ≤ (m : Int) := by omega
      have i2 : (m : Int) < (sd.models.length : Int) := by omega
      clear hr hcell hso hst hg H2 H3 H4 H7
      go_wp2_with fail
      refine (HC1.out _ HS.out.below).mono ?_
      rintro e W' ⟨N1, rfl, hb1⟩
      have HS1 := Lib.hid (HS.out.call hb1)
      have wr1 : IntKind.i64.wrap ((m : Int) + 1) = (m : Int) + 1 := wrap_i64 (by omega) (by have := HO.out.ml; omega)
      clear hb1 HC1 HS q0 q1 q2 q3 q4 q5 k4
      go_wp2_with fail
      exact ⟨⟨m + 1, _, by omega, by go_num, rfl, HS1⟩, by simp [intOf]; omega⟩
    · have i1 : ¬ (m : Int) < (sd.models.length : Int) := by omega
      clear H3
      have kk := HS.out.cp 5 _ rfl
      go_wp2_with fail
      clear kk k4 i1 hlt hml
      go_loopw [5, 3] (fun j x wx => ∃ (m : Nat) (N : Int), m ≤ sd.cases.length ∧ j = .int .i64 m ∧ x = .int .i64 N ∧ Hid (B1 35 14 w wx (stateC sd (.slice a1 sd.users.length c1) (.slice a2 sd.roles.length c2) (.slice a3 sd.models.length c3) (.slice a4 sd.cases.length c4) (.slice a5 sd.timers.length c5) (.slice a6 sd.works.length c6) (.slice a7 sd.audit.length c7) (.slice a8 sd.sess.length c8)))) (fun j _ _ => sd.cases.length - (intOf j).toNat)
      case atStart => exact ⟨0, _, Nat.zero_le _, rfl, rfl, HS.out⟩
      case round =>
        clear HS
        obtain ⟨m, N, hml, rfl, rfl, HS⟩ := hrel
        have k5 := HS.out.cp 5 _ rfl
        by_cases hlt : m < sd.cases.length
        · obtain ⟨rfl, -, -⟩ := H4.out.at0 (by omega)
          obtain ⟨us0, hr, hcell⟩ := H4.out.row m hlt
          have hso := HO.out.co _ (List.getElem_mem hlt)
          obtain ⟨st, hst⟩ : ∃ st, sd.cases[m] = st := ⟨_, rfl⟩
          rw [hst] at hr hso
          obtain ⟨x1, y1, x2, y2, x3, y3, x4, y4, rfl, hg⟩ := CaseD.cells hr
          obtain ⟨_, _, bv, ov, vs0, hvv, -, hVC⟩ := hg.v.listInv
          injection hvv with hw1 hw2 hw3
          subst hw1 hw3
          have HV := Lib.hid hVC
          have HCO := Lib.hid hso
          have q0 := cellBelow2 HS.out.below (hcell 0 _ rfl)
          have q1 := cellBelow2 HS.out.below (hcell 1 _ rfl)
          have q2 := cellBelow2 HS.out.below (hcell 2 _ rfl)
          have q3 := cellBelow2 HS.out.below (hcell 3 _ rfl)
          have q4 := cellBelow2 HS.out.below (hcell 4 _ rfl)
          have q5 := cellBelow2 HS.out.below (hcell 5 _ rfl)
          have q6 := cellBelow2 HS.out.below (hcell 6 _ rfl)
          rw [Nat.add_zero] at q0
          have i1 : (0 : Int) ≤ (m : Int) := by omega
          have i2 : (m : Int) < (sd.cases.length : Int) := by omega
          have HX := Lib.hid (B1.start wr 64 7 #[.int .i64 st.id, .string st.model, .int .i64 st.version, .slice x1 st.values.length y1, .slice x2 st.opn.length y2, .slice x3 st.done.length y3, .slice x4 st.acted.length y4] rfl)
          have HS2 := Lib.hid (HS.out.call ((Below.refl _ _).alloc (Nat.le_refl _) (.cells #[.int .i64 st.id, .string st.model, .int .i64 st.version, .slice x1 st.values.length y1, .slice x2 st.opn.length y2, .slice x3 st.done.length y3, .slice x4 st.acted.length y4] 64)))
          clear hr hcell hso hst hg hVC hw2 H2 H4 H7
          go_upto_region 12 with fail
          revert HX HS2
          generalize wr.alloc (.cells #[.int .i64 st.id, .string st.model, .int .i64 st.version, .slice x1 st.values.length y1, .slice x2 st.opn.length y2, .slice x3 st.done.length y3, .slice x4 st.acted.length y4] 64) = W3
          intro HX HS2
          clear k5 q0 q1 q2 q3 q4 q5 q6 HS
          have p3 := HX.out.cp 3 _ rfl
          have p4 := HX.out.cp 4 _ rfl
          have p5 := HX.out.cp 5 _ rfl
          have p6 := HX.out.cp 6 _ rfl
          go_wp2_with fail
          clear p3 p4 p5 p6
          go_loopw [7, 3] (fun j x wx => ∃ (p : Nat) (N : Int), p ≤ st.values.length ∧ j = .int .i64 p ∧ x = .int .i64 N ∧ Hid (B1 35 14 w wx (stateC sd (.slice a1 sd.users.length c1) (.slice a2 sd.roles.length c2) (.slice a3 sd.models.length c3) (.slice (some ⟨b4, o4, none⟩) sd.cases.length c4) (.slice a5 sd.timers.length c5) (.slice a6 sd.works.length c6) (.slice a7 sd.audit.length c7) (.slice a8 sd.sess.length c8))) ∧ Hid (B1 64 7 wr wx (caseC st (.slice x1 st.values.length y1) (.slice x2 st.opn.length y2) (.slice x3 st.done.length y3) (.slice x4 st.acted.length y4)))) (fun j _ _ => st.values.length - (intOf j).toNat)
          case atStart => exact ⟨0, _, Nat.zero_le _, rfl, rfl, HS2.out, HX.out⟩
          case round =>
            clear HS2 HX
            obtain ⟨p, N, hpl, rfl, rfl, HS, HX⟩ := hrel
            have p3 := HX.out.cp 3 _ rfl
            by_cases hpt : p < st.values.length
            · by_cases hN : N < 100000
              · obtain ⟨rfl, -, -⟩ := HV.out.at0 (by omega)
                have hj1 := HCO.out.vj _ (List.getElem_mem hpt)
                have hv0 : p < vs0.length := by rw [HV.out.len]; exact hpt
                have hr := HV.out.row p hpt hv0
                have HIH := Lib.hid (fun W dp (hb : Below w.heap.size w W) => manyM hj1 _ dp W (hr.grow hb))
                obtain ⟨jk, jb, ji, jt, jn, je, ja, jc, ja2, jc2, -, hvs, -⟩ := IsJson.cells hj1 hr
                have key := fun (q : Nat) u (hq : vs0[p][q]? = some u) => cellBelow2 HS.out.below (HV.out.cell p hv0 q u hq)
                rw [hvs] at key HIH
                have y10 := key 0 _ rfl
                have y11 := key 1 _ rfl
                have y12 := key 2 _ rfl
                have y13 := key 3 _ rfl
                have y14 := key 4 _ rfl
                have y15 := key 5 _ rfl
                rw [Nat.add_zero] at y10
                have i3 : (0 : Int) ≤ (p : Int) := by omega
                have i4 : (p : Int) < (st.values.length : Int) := by omega
                have i5 : decide (N < 100000) = true := decide_eq_true hN
                clear hj1 hr hvs hv0 key HV hN
                go_wp2_with fail
                refine (HIH.out _ _ HS.out.below).mono ?_
                rintro e W' ⟨N', rfl, hb'⟩
                have HS1 := Lib.hid (HS.out.call hb')
                have HX1 := Lib.hid (HX.out.call hb')
                have wr1 : IntKind.i64.wrap ((p : Int) + 1) = (p : Int) + 1 := wrap_i64 (by omega) (by have := HCO.out.vl; omega)
                clear hb' y10 y11 y12 y13 y14 y15 p3 HIH HS HX
                go_wp2_with fail
                exact ⟨⟨p + 1, _, by omega, by go_num, rfl, HS1, HX1⟩, by simp [intOf]; omega⟩
              · have i4 : (p : Int) < (st.values.length : Int) := by omega
                have i5 : decide (N < 100000) = false := decide_eq_false hN
                clear HV hN
                have wr1 : IntKind.i64.wrap ((m : Int) + 1) = (m : Int) + 1 := wrap_i64 (by omega) (by have := HO.out.cl; omega)
                go_wp2_with fail
                exact ⟨⟨m + 1, _, by omega, by go_num, rfl, HS⟩, by simp [intOf]; omega⟩
            · have i4 : ¬ (p : Int) < (st.values.length : Int) := by omega
              clear HV
              have wr1 : IntKind.i64.wrap ((m : Int) + 1) = (m : Int) + 1 := wrap_i64 (by omega) (by have := HO.out.cl; omega)
              go_wp2_with fail
              exact ⟨⟨m + 1, _, by omega, by go_num, rfl, HS⟩, by simp [intOf]; omega⟩
        · have i1 : ¬ (m : Int) < (sd.cases.length : Int) := by omega
          clear H4
          have kk := HS.out.cp 8 _ rfl
          go_wp2_with fail
          clear kk k5 i1 hlt hml
          go_loopw [8, 3] (fun j x wx => ∃ (m : Nat) (N : Int), m ≤ sd.audit.length ∧ j = .int .i64 m ∧ x = .int .i64 N ∧ Hid (B1 35 14 w wx (stateC sd (.slice a1 sd.users.length c1) (.slice a2 sd.roles.length c2) (.slice a3 sd.models.length c3) (.slice a4 sd.cases.length c4) (.slice a5 sd.timers.length c5) (.slice a6 sd.works.length c6) (.slice a7 sd.audit.length c7) (.slice a8 sd.sess.length c8)))) (fun j _ _ => sd.audit.length - (intOf j).toNat)
          case atStart => exact ⟨0, _, Nat.zero_le _, rfl, rfl, HS.out⟩
          case round =>
            clear HS
            obtain ⟨m, N, hml, rfl, rfl, HS⟩ := hrel
            have k8 := HS.out.cp 8 _ rfl
            by_cases hlt : m < sd.audit.length
            · obtain ⟨rfl, -, -⟩ := H7.out.at0 (by omega)
              have x2 := cellBelow2 HS.out.below (H7.out.cell m hlt 2 _ rfl)
              have x3 := cellBelow2 HS.out.below (H7.out.cell m hlt 3 _ rfl)
              obtain ⟨⟨r0, r1, r2, r3, r4, r5⟩, hs⟩ : ∃ s, sd.audit[m] = s := ⟨_, rfl⟩
              rw [hs] at x2 x3
              have i1 : (0 : Int) ≤ (m : Int) := by omega
              have i2 : (m : Int) < (sd.audit.length : Int) := by omega
              have wr1 : IntKind.i64.wrap ((m : Int) + 1) = (m : Int) + 1 := wrap_i64 (by omega) (by have := HO.out.al; omega)
              clear hs H2 H7
              go_wp2_with fail
              go_quiet (fail)
              go_wp2_with fail
              go_roundw
              case rel => exact ⟨m + 1, _, by omega, by go_num, rfl, Lib.hid (HS.out.call (below_drewN (Below.refl _ _) _))⟩
              case measure => simp [intOf]; omega
            · have i1 : ¬ (m : Int) < (sd.audit.length : Int) := by omega
              clear H7
              have kk := HS.out.cp 3 _ rfl
              go_wp2_with fail
              clear kk k8 i1 hlt hml
              go_loopw [9, 3] (fun j x wx => ∃ (m : Nat) (N : Int), m ≤ sd.roles.length ∧ j = .int .i64 m ∧ x = .int .i64 N ∧ Hid (B1 35 14 w wx (stateC sd (.slice a1 sd.users.length c1) (.slice a2 sd.roles.length c2) (.slice a3 sd.models.length c3) (.slice a4 sd.cases.length c4) (.slice a5 sd.timers.length c5) (.slice a6 sd.works.length c6) (.slice a7 sd.audit.length c7) (.slice a8 sd.sess.length c8)))) (fun j _ _ => sd.roles.length - (intOf j).toNat)
              case atStart => exact ⟨0, _, Nat.zero_le _, rfl, rfl, HS.out⟩
              case round =>
                clear HS
                obtain ⟨m, N, hml, rfl, rfl, HS⟩ := hrel
                have k3 := HS.out.cp 3 _ rfl
                have k1 := HS.out.cp 1 _ rfl
                by_cases hlt : m < sd.roles.length
                · obtain ⟨rfl, -, -⟩ := H2.out.at0 (by omega)
                  obtain ⟨us0, hr, hcell⟩ := H2.out.row m hlt
                  obtain ⟨st, hst⟩ : ∃ st, sd.roles[m] = st := ⟨_, rfl⟩
                  rw [hst] at hr
                  obtain ⟨x1, y1, x2, y2, rfl, -, -⟩ := RoleD.cells hr
                  have q1 := cellBelow2 HS.out.below (hcell 1 _ rfl)
                  have q2 := cellBelow2 HS.out.below (hcell 2 _ rfl)
                  have i1 : (0 : Int) ≤ (m : Int) := by omega
                  have i2 : (m : Int) < (sd.roles.length : Int) := by omega
                  have wr1 : IntKind.i64.wrap ((m : Int) + 1) = (m : Int) + 1 := wrap_i64 (by omega) (by have := HO.out.rl; omega)
                  clear hst hr hcell H2
                  go_wp2_with fail
                  go_quiet (fail)
                  go_wp2_with fail
                  go_roundw
                  case rel => exact ⟨m + 1, _, by omega, by go_num, rfl, Lib.hid (HS.out.call (below_drewN (Below.refl _ _) _))⟩
                  case measure => simp [intOf]; omega
                · have i1 : ¬ (m : Int) < (sd.roles.length : Int) := by omega
                  by_cases hN : 40000 < N
                  · have d2 : decide (40000 < N) = true := decide_eq_true hN
                    clear hN
                    go_wp2_with fail
                    go_ret
                    exact ⟨_, rfl, HS.out.below⟩
                  · have d2 : decide (40000 < N) = false := decide_eq_false hN
                    clear hN
                    go_wp2_with fail
                    go_ret
                    exact ⟨_, rfl, HS.out.below⟩
end Go.Proofs.YtinijohmdljieaaGreatDoor
