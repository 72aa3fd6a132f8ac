/- docketref24.Same at states that are the same. -/
import Derived.Test.YtinijohmdljieaaGreatDoorFlatSame2
namespace Go.Proofs.YtinijohmdljieaaGreatDoor
open Go.RowKit

set_option maxHeartbeats 16000000 in
set_option maxRecDepth 100000 in
theorem stateSame (sd : StateD) (hok : sd.Ok) (us vs : List Value) (w : World) (hm : MemL false (From 0) w sd.ds us) (hm2 : MemL false (From 0) w sd.ds vs) : Calls Tryz.prog 8 #[.agg us.toArray, .agg vs.toArray] w fun e w' => e = .returned (.bool true) ∧ Below w.heap.size w w' := by
  obtain ⟨a1, c1, a2, c2, a3, c3, a4, c4, a5, c5, a6, c6, a7, c7, a8, c8, rfl, hM⟩ := StateD.cells hm
  obtain ⟨d1, e1, d2, e2, d3, e3, d4, e4, d5, e5, d6, e6, d7, e7, d8, e8, rfl, hN⟩ := StateD.cells hm2
  obtain ⟨_, _, b1, o1, p1, -, h1⟩ := rec_open hM.u
  obtain ⟨_, _, b2, o2, p2, -, h2⟩ := rec_open hN.u
  obtain ⟨_, _, b3, o3, p3, -, h3⟩ := rec_open hM.r
  obtain ⟨_, _, b4, o4, p4, -, h4⟩ := rec_open hN.r
  obtain ⟨_, _, b5, o5, p5, -, h5⟩ := rec_open hM.m
  obtain ⟨_, _, b6, o6, p6, -, h6⟩ := rec_open hN.m
  obtain ⟨_, _, b7, o7, p7, -, h7⟩ := rec_open hM.c
  obtain ⟨_, _, b8, o8, p8, -, h8⟩ := rec_open hN.c
  obtain ⟨_, _, b9, o9, p9, -, h9⟩ := flat_open hM.e
  obtain ⟨_, _, b10, o10, p10, -, h10⟩ := flat_open hN.e
  injection p1 with g1 g1' g1''
  injection p2 with g2 g2' g2''
  injection p3 with g3 g3' g3''
  injection p4 with g4 g4' g4''
  injection p5 with g5 g5' g5''
  injection p6 with g6 g6' g6''
  injection p7 with g7 g7' g7''
  injection p8 with g8 g8' g8''
  injection p9 with g9 g9' g9''
  injection p10 with g10 g10' g10''
  subst g1 g1'' g2 g2'' g3 g3'' g4 g4'' g5 g5'' g6 g6'' g7 g7'' g8 g8'' g9 g9'' g10 g10''
  have H1 := Lib.hid h1
  have H2 := Lib.hid h2
  have H3 := Lib.hid h3
  have H4 := Lib.hid h4
  have H5 := Lib.hid h5
  have H6 := Lib.hid h6
  have H7 := Lib.hid h7
  have H8 := Lib.hid h8
  have H9 := Lib.hid h9
  have H10 := Lib.hid h10
  have HO := Lib.hid hok
  have HT := Lib.hid (fun W (hb : Below w.heap.size w W) => timersSame sd.timers a5 d5 c5 e5 W hok.tl (hM.t.grow hb) (hN.t.grow hb))
  have HW := Lib.hid (fun W (hb : Below w.heap.size w W) => worksSame sd.works a6 d6 c6 e6 W hok.wl (hM.k.grow hb) (hN.k.grow hb))
  have HR := Lib.hid (fun W (hb : Below w.heap.size w W) => recordsSame sd.audit a7 d7 c7 e7 W hok.al (hM.a.grow hb) (hN.a.grow hb))
  have HB0 := Lib.hid (B2.start w 35 14 #[.int .i64 sd.clock, .string sd.secret, .slice a1 sd.users.length c1, .slice a2 sd.roles.length c2, .slice a3 sd.models.length c3, .slice a4 sd.cases.length c4, .slice a5 sd.timers.length c5, .slice a6 sd.works.length c6, .slice a7 sd.audit.length c7, .slice a8 sd.sess.length c8, .int .i64 sd.nc, .int .i64 sd.nw, .int .i64 sd.np, .int .i64 sd.nt] #[.int .i64 sd.clock, .string sd.secret, .slice d1 sd.users.length e1, .slice d2 sd.roles.length e2, .slice d3 sd.models.length e3, .slice d4 sd.cases.length e4, .slice d5 sd.timers.length e5, .slice d6 sd.works.length e6, .slice d7 sd.audit.length e7, .slice d8 sd.sess.length e8, .int .i64 sd.nc, .int .i64 sd.nw, .int .i64 sd.np, .int .i64 sd.nt] rfl rfl)
  clear hm hm2 hM hN hok g1' h1 g2' h2 g3' h3 g4' h4 g5' h5 g6' h6 g7' h7 g8' h8 g9' h9 g10' h10
  go_enter Tryz.func8, Tryz.ntmps8
  go_upto_region 1 with fail
  revert HB0
  generalize ((w.alloc (.cells #[.int .i64 sd.clock, .string sd.secret, .slice a1 sd.users.length c1, .slice a2 sd.roles.length c2, .slice a3 sd.models.length c3, .slice a4 sd.cases.length c4, .slice a5 sd.timers.length c5, .slice a6 sd.works.length c6, .slice a7 sd.audit.length c7, .slice a8 sd.sess.length c8, .int .i64 sd.nc, .int .i64 sd.nw, .int .i64 sd.np, .int .i64 sd.nt] 35)).alloc (.cells #[.int .i64 sd.clock, .string sd.secret, .slice d1 sd.users.length e1, .slice d2 sd.roles.length e2, .slice d3 sd.models.length e3, .slice d4 sd.cases.length e4, .slice d5 sd.timers.length e5, .slice d6 sd.works.length e6, .slice d7 sd.audit.length e7, .slice d8 sd.sess.length e8, .int .i64 sd.nc, .int .i64 sd.nw, .int .i64 sd.np, .int .i64 sd.nt] 35)) = W0
  intro HS
  have k0 := HS.out.cp 0 _ rfl
  have k1 := HS.out.cp 1 _ rfl
  have k2 := HS.out.cp 2 _ rfl
  have k3 := HS.out.cp 3 _ rfl
  have k4 := HS.out.cp 4 _ rfl
  have k5 := HS.out.cp 5 _ rfl
  have k9 := HS.out.cp 9 _ rfl
  have k10 := HS.out.cp 10 _ rfl
  have k11 := HS.out.cp 11 _ rfl
  have k12 := HS.out.cp 12 _ rfl
  have k13 := HS.out.cp 13 _ rfl
  have q0 := HS.out.cq 0 _ rfl
  have q1 := HS.out.cq 1 _ rfl
  have q2 := HS.out.cq 2 _ rfl
  have q3 := HS.out.cq 3 _ rfl
  have q4 := HS.out.cq 4 _ rfl
  have q5 := HS.out.cq 5 _ rfl
  have q9 := HS.out.cq 9 _ rfl
  have q10 := HS.out.cq 10 _ rfl
  have q11 := HS.out.cq 11 _ rfl
  have q12 := HS.out.cq 12 _ rfl
  have q13 := HS.out.cq 13 _ rfl
  go_wp2_with fail
  clear k0 q0 k1 q1 k2 q2 k3 q3 k4 q4 k5 q5 k9 q9 k10 q10 k11 q11 k12 q12 k13 q13
  have kk := HS.out.cp 2 _ rfl
  go_wp2_with fail
  clear kk
  go_loopw [5] (fun j wx => ∃ m : Nat, m ≤ sd.users.length ∧ j = .int .i64 m ∧ Hid (B2 35 14 w wx (stateC sd (.slice a1 sd.users.length c1) (.slice a2 sd.roles.length c2) (.slice a3 sd.models.length c3) (.slice a4 sd.cases.length c4) (.slice a5 sd.timers.length c5) (.slice a6 sd.works.length c6) (.slice a7 sd.audit.length c7) (.slice a8 sd.sess.length c8)) (stateC sd (.slice d1 sd.users.length e1) (.slice d2 sd.roles.length e2) (.slice d3 sd.models.length e3) (.slice d4 sd.cases.length e4) (.slice d5 sd.timers.length e5) (.slice d6 sd.works.length e6) (.slice d7 sd.audit.length e7) (.slice d8 sd.sess.length e8)))) (fun j _ => sd.users.length - (intOf j).toNat)
  case atStart => exact ⟨0, Nat.zero_le _, rfl, HS.out⟩
  case round =>
    clear HS
    obtain ⟨m, hml, rfl, HS⟩ := hrel
    have k3 := HS.out.cp 2 _ rfl
    have q3 := HS.out.cq 2 _ rfl
    by_cases hlt : m < sd.users.length
    · obtain ⟨rfl, -, -⟩ := H1.out.at0 (by omega)
      obtain ⟨rfl, -, -⟩ := H2.out.at0 (by omega)
      obtain ⟨us0, hr, hcell⟩ := H1.out.row m hlt
      obtain ⟨us1, hr2, hcell2⟩ := H2.out.row m hlt
      have hso := HO.out.uo _ (List.getElem_mem hlt)
      obtain ⟨st, hst⟩ : ∃ st, sd.users[m] = st := ⟨_, rfl⟩
      rw [hst] at hr hr2 hso
      obtain ⟨x1, y1, rfl, hg⟩ := UserD.cells hr
      obtain ⟨s1, t1, rfl, hg2⟩ := UserD.cells hr2
      have HC1 := Lib.hid (fun W (hb : Below w.heap.size w W) => userSame st x1 s1 y1 t1 W hso (hg.grow hb) (hg2.grow hb))
      have HP : Hid (∀ W, B2 35 14 w W (stateC sd (.slice (some ⟨b1, o1, none⟩) sd.users.length c1) (.slice a2 sd.roles.length c2) (.slice a3 sd.models.length c3) (.slice a4 sd.cases.length c4) (.slice a5 sd.timers.length c5) (.slice a6 sd.works.length c6) (.slice a7 sd.audit.length c7) (.slice a8 sd.sess.length c8)) (stateC sd (.slice (some ⟨b2, o2, none⟩) sd.users.length e1) (.slice d2 sd.roles.length e2) (.slice d3 sd.models.length e3) (.slice d4 sd.cases.length e4) (.slice d5 sd.timers.length e5) (.slice d6 sd.works.length e6) (.slice d7 sd.audit.length e7) (.slice d8 sd.sess.length e8)) → W.cell? ⟨w.heap.size, 2, none⟩ = some (.slice (some ⟨b1, o1, none⟩) sd.users.length c1) ∧ W.cell? ⟨w.heap.size + 1, 2, none⟩ = some (.slice (some ⟨b2, o2, none⟩) sd.users.length e1) ∧ W.cell? ⟨b1, o1 + m * 4, none⟩ = some (.string st.n) ∧ W.cell? ⟨b1, o1 + m * 4 + 1, none⟩ = some (.string st.s) ∧ W.cell? ⟨b1, o1 + m * 4 + 2, none⟩ = some (.string st.p) ∧ W.cell? ⟨b1, o1 + m * 4 + 3, none⟩ = some (.slice x1 st.rs.length y1) ∧ W.cell? ⟨b2, o2 + m * 4, none⟩ = some (.string st.n) ∧ W.cell? ⟨b2, o2 + m * 4 + 1, none⟩ = some (.string st.s) ∧ W.cell? ⟨b2, o2 + m * 4 + 2, none⟩ = some (.string st.p) ∧ W.cell? ⟨b2, o2 + m * 4 + 3, none⟩ = some (.slice s1 st.rs.length t1)) := by
        intro W hW
        exact ⟨hW.cp 2 _ rfl, hW.cq 2 _ rfl, cellBelow2 hW.below (hcell 0 _ rfl), cellBelow2 hW.below (hcell 1 _ rfl), cellBelow2 hW.below (hcell 2 _ rfl), cellBelow2 hW.below (hcell 3 _ rfl), cellBelow2 hW.below (hcell2 0 _ rfl), cellBelow2 hW.below (hcell2 1 _ rfl), cellBelow2 hW.below (hcell2 2 _ rfl), cellBelow2 hW.below (hcell2 3 _ rfl)⟩
      have i1 : (0 : Int) ≤ (m : Int) := by omega
      have i2 : (m : Int) < (sd.users.length : Int) := by omega
      clear hr hr2 hcell hcell2 hso hst HT HW HR H1 H2 H3 H4 H5 H6 H7 H8 H9 H10
      go_upto_region 8 with fail
      clear k3 q3
      go_region_held3 (fun W => B2 35 14 w W (stateC sd (.slice (some ⟨b1, o1, none⟩) sd.users.length c1) (.slice a2 sd.roles.length c2) (.slice a3 sd.models.length c3) (.slice a4 sd.cases.length c4) (.slice a5 sd.timers.length c5) (.slice a6 sd.works.length c6) (.slice a7 sd.audit.length c7) (.slice a8 sd.sess.length c8)) (stateC sd (.slice (some ⟨b2, o2, none⟩) sd.users.length e1) (.slice d2 sd.roles.length e2) (.slice d3 sd.models.length e3) (.slice d4 sd.cases.length e4) (.slice d5 sd.timers.length e5) (.slice d6 sd.works.length e6) (.slice d7 sd.audit.length e7) (.slice d8 sd.sess.length e8)) ∧ W.cell? ⟨w.heap.size, 2, none⟩ = some (.slice (some ⟨b1, o1, none⟩) sd.users.length c1) ∧ W.cell? ⟨w.heap.size + 1, 2, none⟩ = some (.slice (some ⟨b2, o2, none⟩) sd.users.length e1) ∧ W.cell? ⟨b1, o1 + m * 4, none⟩ = some (.string st.n) ∧ W.cell? ⟨b1, o1 + m * 4 + 1, none⟩ = some (.string st.s) ∧ W.cell? ⟨b1, o1 + m * 4 + 2, none⟩ = some (.string st.p) ∧ W.cell? ⟨b1, o1 + m * 4 + 3, none⟩ = some (.slice x1 st.rs.length y1) ∧ W.cell? ⟨b2, o2 + m * 4, none⟩ = some (.string st.n) ∧ W.cell? ⟨b2, o2 + m * 4 + 1, none⟩ = some (.string st.s) ∧ W.cell? ⟨b2, o2 + m * 4 + 2, none⟩ = some (.string st.p) ∧ W.cell? ⟨b2, o2 + m * 4 + 3, none⟩ = some (.slice s1 st.rs.length t1))
        (first | exact ⟨HS.out.drew, HP.out _ HS.out.drew⟩ | exact (fun h => ⟨h, HP.out _ h⟩) (by assumption))
        ((first
            | (go_at_call 16; refine (HC1.out _ (B2.below (And.left (by assumption)))).mono ?_; rintro e W' ⟨rfl, hbw⟩; have hsw := B2.call (And.left (by assumption)) hbw; clear HC1)))
      all_goals
        rename_i hS
        have hS1 := Lib.hid hS.1
        have wr1 : IntKind.i64.wrap ((m : Int) + 1) = (m : Int) + 1 := wrap_i64 (by omega) (by have := HO.out.ul; omega)
        clear hS HS HP
        go_wp2_with fail
        go_roundw
        case rel => exact ⟨m + 1, by omega, by go_num, hS1⟩
        case measure => simp [intOf]; omega
    · have i1 : ¬ (m : Int) < (sd.users.length : Int) := by omega
      clear H1 H2
      have kk := HS.out.cp 3 _ rfl
      go_wp2_with fail
      clear kk
      go_loopw [6] (fun j wx => ∃ m : Nat, m ≤ sd.roles.length ∧ j = .int .i64 m ∧ Hid (B2 35 14 w wx (stateC sd (.slice a1 sd.users.length c1) (.slice a2 sd.roles.length c2) (.slice a3 sd.models.length c3) (.slice a4 sd.cases.length c4) (.slice a5 sd.timers.length c5) (.slice a6 sd.works.length c6) (.slice a7 sd.audit.length c7) (.slice a8 sd.sess.length c8)) (stateC sd (.slice d1 sd.users.length e1) (.slice d2 sd.roles.length e2) (.slice d3 sd.models.length e3) (.slice d4 sd.cases.length e4) (.slice d5 sd.timers.length e5) (.slice d6 sd.works.length e6) (.slice d7 sd.audit.length e7) (.slice d8 sd.sess.length e8)))) (fun j _ => sd.roles.length - (intOf j).toNat)
      case atStart => exact ⟨0, Nat.zero_le _, rfl, HS.out⟩
      case round =>
        clear HS
        obtain ⟨m, hml, rfl, HS⟩ := hrel
        have k3 := HS.out.cp 3 _ rfl
        have q3 := HS.out.cq 3 _ rfl
        by_cases hlt : m < sd.roles.length
        · obtain ⟨rfl, -, -⟩ := H3.out.at0 (by omega)
          obtain ⟨rfl, -, -⟩ := H4.out.at0 (by omega)
          obtain ⟨us0, hr, hcell⟩ := H3.out.row m hlt
          obtain ⟨us1, hr2, hcell2⟩ := H4.out.row m hlt
          have hso := HO.out.ro _ (List.getElem_mem hlt)
          obtain ⟨st, hst⟩ : ∃ st, sd.roles[m] = st := ⟨_, rfl⟩
          rw [hst] at hr hr2 hso
          obtain ⟨x1, y1, x2, y2, rfl, hg, hi⟩ := RoleD.cells hr
          obtain ⟨s1, t1, s2, t2, rfl, hg2, hi2⟩ := RoleD.cells hr2
          have HC1 := Lib.hid (fun W (hb : Below w.heap.size w W) => textsM st.holds x1 s1 y1 t1 W hso.1 (hg.grow hb) (hg2.grow hb))
          have HC2 := Lib.hid (fun W (hb : Below w.heap.size w W) => textsM st.may x2 s2 y2 t2 W hso.2 (hi.grow hb) (hi2.grow hb))
          have HP : Hid (∀ W, B2 35 14 w W (stateC sd (.slice a1 sd.users.length c1) (.slice (some ⟨b3, o3, none⟩) sd.roles.length c2) (.slice a3 sd.models.length c3) (.slice a4 sd.cases.length c4) (.slice a5 sd.timers.length c5) (.slice a6 sd.works.length c6) (.slice a7 sd.audit.length c7) (.slice a8 sd.sess.length c8)) (stateC sd (.slice d1 sd.users.length e1) (.slice (some ⟨b4, o4, none⟩) sd.roles.length e2) (.slice d3 sd.models.length e3) (.slice d4 sd.cases.length e4) (.slice d5 sd.timers.length e5) (.slice d6 sd.works.length e6) (.slice d7 sd.audit.length e7) (.slice d8 sd.sess.length e8)) → W.cell? ⟨w.heap.size, 3, none⟩ = some (.slice (some ⟨b3, o3, none⟩) sd.roles.length c2) ∧ W.cell? ⟨w.heap.size + 1, 3, none⟩ = some (.slice (some ⟨b4, o4, none⟩) sd.roles.length e2) ∧ W.cell? ⟨b3, o3 + m * 3, none⟩ = some (.string st.name) ∧ W.cell? ⟨b3, o3 + m * 3 + 1, none⟩ = some (.slice x1 st.holds.length y1) ∧ W.cell? ⟨b3, o3 + m * 3 + 2, none⟩ = some (.slice x2 st.may.length y2) ∧ W.cell? ⟨b4, o4 + m * 3, none⟩ = some (.string st.name) ∧ W.cell? ⟨b4, o4 + m * 3 + 1, none⟩ = some (.slice s1 st.holds.length t1) ∧ W.cell? ⟨b4, o4 + m * 3 + 2, none⟩ = some (.slice s2 st.may.length t2)) := by
            intro W hW
            exact ⟨hW.cp 3 _ rfl, hW.cq 3 _ rfl, cellBelow2 hW.below (hcell 0 _ rfl), cellBelow2 hW.below (hcell 1 _ rfl), cellBelow2 hW.below (hcell 2 _ rfl), cellBelow2 hW.below (hcell2 0 _ rfl), cellBelow2 hW.below (hcell2 1 _ rfl), cellBelow2 hW.below (hcell2 2 _ rfl)⟩
          have i1 : (0 : Int) ≤ (m : Int) := by omega
          have i2 : (m : Int) < (sd.roles.length : Int) := by omega
          clear hr hr2 hcell hcell2 hso hst HT HW HR H3 H4 H5 H6 H7 H8 H9 H10
          go_upto_region 13 with fail
          clear k3 q3
          go_region_held3 (fun W => B2 35 14 w W (stateC sd (.slice a1 sd.users.length c1) (.slice (some ⟨b3, o3, none⟩) sd.roles.length c2) (.slice a3 sd.models.length c3) (.slice a4 sd.cases.length c4) (.slice a5 sd.timers.length c5) (.slice a6 sd.works.length c6) (.slice a7 sd.audit.length c7) (.slice a8 sd.sess.length c8)) (stateC sd (.slice d1 sd.users.length e1) (.slice (some ⟨b4, o4, none⟩) sd.roles.length e2) (.slice d3 sd.models.length e3) (.slice d4 sd.cases.length e4) (.slice d5 sd.timers.length e5) (.slice d6 sd.works.length e6) (.slice d7 sd.audit.length e7) (.slice d8 sd.sess.length e8)) ∧ W.cell? ⟨w.heap.size, 3, none⟩ = some (.slice (some ⟨b3, o3, none⟩) sd.roles.length c2) ∧ W.cell? ⟨w.heap.size + 1, 3, none⟩ = some (.slice (some ⟨b4, o4, none⟩) sd.roles.length e2) ∧ W.cell? ⟨b3, o3 + m * 3, none⟩ = some (.string st.name) ∧ W.cell? ⟨b3, o3 + m * 3 + 1, none⟩ = some (.slice x1 st.holds.length y1) ∧ W.cell? ⟨b3, o3 + m * 3 + 2, none⟩ = some (.slice x2 st.may.length y2) ∧ W.cell? ⟨b4, o4 + m * 3, none⟩ = some (.string st.name) ∧ W.cell? ⟨b4, o4 + m * 3 + 1, none⟩ = some (.slice s1 st.holds.length t1) ∧ W.cell? ⟨b4, o4 + m * 3 + 2, none⟩ = some (.slice s2 st.may.length t2))
            (first | exact ⟨HS.out.drew, HP.out _ HS.out.drew⟩ | exact (fun h => ⟨h, HP.out _ h⟩) (by assumption))
            ((first
                | (go_at_call 30; refine (HC1.out _ (B2.below (And.left (by assumption)))).mono ?_; rintro e W' ⟨rfl, hbw⟩; have hsw := B2.call (And.left (by assumption)) hbw; clear HC1)
                | (go_at_call 30; refine (HC2.out _ (B2.below (And.left (by assumption)))).mono ?_; rintro e W' ⟨rfl, hbw⟩; have hsw := B2.call (And.left (by assumption)) hbw; clear HC2)))
          all_goals
            rename_i hS
            have hS1 := Lib.hid hS.1
            have wr1 : IntKind.i64.wrap ((m : Int) + 1) = (m : Int) + 1 := wrap_i64 (by omega) (by have := HO.out.rl; omega)
            clear hS HS HP
            go_wp2_with fail
            go_roundw
            case rel => exact ⟨m + 1, by omega, by go_num, hS1⟩
            case measure => simp [intOf]; omega
        · have i1 : ¬ (m : Int) < (sd.roles.length : Int) := by omega
          clear H3 H4
          have kk := HS.out.cp 4 _ rfl
          go_wp2_with fail
          clear kk
          go_loopw [7] (fun j wx => ∃ m : Nat, m ≤ sd.models.length ∧ j = .int .i64 m ∧ Hid (B2 35 14 w wx (stateC sd (.slice a1 sd.users.length c1) (.slice a2 sd.roles.length c2) (.slice a3 sd.models.length c3) (.slice a4 sd.cases.length c4) (.slice a5 sd.timers.length c5) (.slice a6 sd.works.length c6) (.slice a7 sd.audit.length c7) (.slice a8 sd.sess.length c8)) (stateC sd (.slice d1 sd.users.length e1) (.slice d2 sd.roles.length e2) (.slice d3 sd.models.length e3) (.slice d4 sd.cases.length e4) (.slice d5 sd.timers.length e5) (.slice d6 sd.works.length e6) (.slice d7 sd.audit.length e7) (.slice d8 sd.sess.length e8)))) (fun j _ => sd.models.length - (intOf j).toNat)
          case atStart => exact ⟨0, Nat.zero_le _, rfl, HS.out⟩
          case round =>
            clear HS
            obtain ⟨m, hml, rfl, HS⟩ := hrel
            have k3 := HS.out.cp 4 _ rfl
            have q3 := HS.out.cq 4 _ rfl
            by_cases hlt : m < sd.models.length
            · obtain ⟨rfl, -, -⟩ := H5.out.at0 (by omega)
              obtain ⟨rfl, -, -⟩ := H6.out.at0 (by omega)
              obtain ⟨us0, hr, hcell⟩ := H5.out.row m hlt
              obtain ⟨us1, hr2, hcell2⟩ := H6.out.row m hlt
              have hso := HO.out.mo _ (List.getElem_mem hlt)
              obtain ⟨st, hst⟩ : ∃ st, sd.models[m] = st := ⟨_, rfl⟩
              rw [hst] at hr hr2 hso
              obtain ⟨⟨x1, y1, x2, y2, x3, y3, x4, y4, x5, y5⟩, rfl, hg⟩ := VerD.cells hr
              obtain ⟨⟨s1, t1, s2, t2, s3, t3, s4, t4, s5, t5⟩, rfl, hg2⟩ := VerD.cells hr2
              have HC1 := Lib.hid (fun W (hb : Below w.heap.size w W) => modelSame st.m hso x1 y1 x2 y2 x3 y3 x4 y4 x5 y5 s1 t1 s2 t2 s3 t3 s4 t4 s5 t5 W (hg.grow hb) (hg2.grow hb))
              have HP : Hid (∀ W, B2 35 14 w W (stateC sd (.slice a1 sd.users.length c1) (.slice a2 sd.roles.length c2) (.slice (some ⟨b5, o5, none⟩) sd.models.length c3) (.slice a4 sd.cases.length c4) (.slice a5 sd.timers.length c5) (.slice a6 sd.works.length c6) (.slice a7 sd.audit.length c7) (.slice a8 sd.sess.length c8)) (stateC sd (.slice d1 sd.users.length e1) (.slice d2 sd.roles.length e2) (.slice (some ⟨b6, o6, none⟩) sd.models.length e3) (.slice d4 sd.cases.length e4) (.slice d5 sd.timers.length e5) (.slice d6 sd.works.length e6) (.slice d7 sd.audit.length e7) (.slice d8 sd.sess.length e8)) → W.cell? ⟨w.heap.size, 4, none⟩ = some (.slice (some ⟨b5, o5, none⟩) sd.models.length c3) ∧ W.cell? ⟨w.heap.size + 1, 4, none⟩ = some (.slice (some ⟨b6, o6, none⟩) sd.models.length e3) ∧ W.cell? ⟨b5, o5 + m * 7, none⟩ = some (.string st.m.name) ∧ W.cell? ⟨b5, o5 + m * 7 + 1, none⟩ = some (.slice x1 st.m.attrs.length y1) ∧ W.cell? ⟨b5, o5 + m * 7 + 2, none⟩ = some (.slice x2 st.m.events.length y2) ∧ W.cell? ⟨b5, o5 + m * 7 + 3, none⟩ = some (.slice x3 st.m.stages.length y3) ∧ W.cell? ⟨b5, o5 + m * 7 + 4, none⟩ = some (.slice x4 st.m.stones.length y4) ∧ W.cell? ⟨b5, o5 + m * 7 + 5, none⟩ = some (.slice x5 st.m.apart.length y5) ∧ W.cell? ⟨b5, o5 + m * 7 + 6, none⟩ = some (.int .i64 st.v) ∧ W.cell? ⟨b6, o6 + m * 7, none⟩ = some (.string st.m.name) ∧ W.cell? ⟨b6, o6 + m * 7 + 1, none⟩ = some (.slice s1 st.m.attrs.length t1) ∧ W.cell? ⟨b6, o6 + m * 7 + 2, none⟩ = some (.slice s2 st.m.events.length t2) ∧ W.cell? ⟨b6, o6 + m * 7 + 3, none⟩ = some (.slice s3 st.m.stages.length t3) ∧ W.cell? ⟨b6, o6 + m * 7 + 4, none⟩ = some (.slice s4 st.m.stones.length t4) ∧ W.cell? ⟨b6, o6 + m * 7 + 5, none⟩ = some (.slice s5 st.m.apart.length t5) ∧ W.cell? ⟨b6, o6 + m * 7 + 6, none⟩ = some (.int .i64 st.v)) := by
                intro W hW
                exact ⟨hW.cp 4 _ rfl, hW.cq 4 _ rfl, cellBelow2 hW.below (hcell 0 _ rfl), cellBelow2 hW.below (hcell 1 _ rfl), cellBelow2 hW.below (hcell 2 _ rfl), cellBelow2 hW.below (hcell 3 _ rfl), cellBelow2 hW.below (hcell 4 _ rfl), cellBelow2 hW.below (hcell 5 _ rfl), cellBelow2 hW.below (hcell 6 _ rfl), cellBelow2 hW.below (hcell2 0 _ rfl), cellBelow2 hW.below (hcell2 1 _ rfl), cellBelow2 hW.below (hcell2 2 _ rfl), cellBelow2 hW.below (hcell2 3 _ rfl), cellBelow2 hW.below (hcell2 4 _ rfl), cellBelow2 hW.below (hcell2 5 _ rfl), cellBelow2 hW.below (hcell2 6 _ rfl)⟩
              have i1 : (0 : Int) ≤ (m : Int) := by omega
              have i2 : (m : Int) < (sd.models.length : Int) := by omega
              clear hr hr2 hcell hcell2 hso hst HT HW HR H5 H6 H7 H8 H9 H10
              go_upto_region 18 with fail
              clear k3 q3
              go_region_held3 (fun W => B2 35 14 w W (stateC sd (.slice a1 sd.users.length c1) (.slice a2 sd.roles.length c2) (.slice (some ⟨b5, o5, none⟩) sd.models.length c3) (.slice a4 sd.cases.length c4) (.slice a5 sd.timers.length c5) (.slice a6 sd.works.length c6) (.slice a7 sd.audit.length c7) (.slice a8 sd.sess.length c8)) (stateC sd (.slice d1 sd.users.length e1) (.slice d2 sd.roles.length e2) (.slice (some ⟨b6, o6, none⟩) sd.models.length e3) (.slice d4 sd.cases.length e4) (.slice d5 sd.timers.length e5) (.slice d6 sd.works.length e6) (.slice d7 sd.audit.length e7) (.slice d8 sd.sess.length e8)) ∧ W.cell? ⟨w.heap.size, 4, none⟩ = some (.slice (some ⟨b5, o5, none⟩) sd.models.length c3) ∧ W.cell? ⟨w.heap.size + 1, 4, none⟩ = some (.slice (some ⟨b6, o6, none⟩) sd.models.length e3) ∧ W.cell? ⟨b5, o5 + m * 7, none⟩ = some (.string st.m.name) ∧ W.cell? ⟨b5, o5 + m * 7 + 1, none⟩ = some (.slice x1 st.m.attrs.length y1) ∧ W.cell? ⟨b5, o5 + m * 7 + 2, none⟩ = some (.slice x2 st.m.events.length y2) ∧ W.cell? ⟨b5, o5 + m * 7 + 3, none⟩ = some (.slice x3 st.m.stages.length y3) ∧ W.cell? ⟨b5, o5 + m * 7 + 4, none⟩ = some (.slice x4 st.m.stones.length y4) ∧ W.cell? ⟨b5, o5 + m * 7 + 5, none⟩ = some (.slice x5 st.m.apart.length y5) ∧ W.cell? ⟨b5, o5 + m * 7 + 6, none⟩ = some (.int .i64 st.v) ∧ W.cell? ⟨b6, o6 + m * 7, none⟩ = some (.string st.m.name) ∧ W.cell? ⟨b6, o6 + m * 7 + 1, none⟩ = some (.slice s1 st.m.attrs.length t1) ∧ W.cell? ⟨b6, o6 + m * 7 + 2, none⟩ = some (.slice s2 st.m.events.length t2) ∧ W.cell? ⟨b6, o6 + m * 7 + 3, none⟩ = some (.slice s3 st.m.stages.length t3) ∧ W.cell? ⟨b6, o6 + m * 7 + 4, none⟩ = some (.slice s4 st.m.stones.length t4) ∧ W.cell? ⟨b6, o6 + m * 7 + 5, none⟩ = some (.slice s5 st.m.apart.length t5) ∧ W.cell? ⟨b6, o6 + m * 7 + 6, none⟩ = some (.int .i64 st.v))
                (first | exact ⟨HS.out.drew, HP.out _ HS.out.drew⟩ | exact (fun h => ⟨h, HP.out _ h⟩) (by assumption))
                ((first
                    | (go_at_call 17; refine (HC1.out _ (B2.below (And.left (by assumption)))).mono ?_; rintro e W' ⟨rfl, hbw⟩; have hsw := B2.call (And.left (by assumption)) hbw; clear HC1)))
              all_goals
                rename_i hS
                have hS1 := Lib.hid hS.1
                have wr1 : IntKind.i64.wrap ((m : Int) + 1) = (m : Int) + 1 := wrap_i64 (by omega) (by have := HO.out.ml; omega)
                clear hS HS HP
                go_wp2_with fail
                go_roundw
                case rel => exact ⟨m + 1, by omega, by go_num, hS1⟩
                case measure => simp [intOf]; omega
            · have i1 : ¬ (m : Int) < (sd.models.length : Int) := by omega
              clear H5 H6
              have kk := HS.out.cp 5 _ rfl
              go_wp2_with fail
              clear kk
              go_loopw [8] (fun j wx => ∃ m : Nat, m ≤ sd.cases.length ∧ j = .int .i64 m ∧ Hid (B2 35 14 w wx (stateC sd (.slice a1 sd.users.length c1) (.slice a2 sd.roles.length c2) (.slice a3 sd.models.length c3) (.slice a4 sd.cases.length c4) (.slice a5 sd.timers.length c5) (.slice a6 sd.works.length c6) (.slice a7 sd.audit.length c7) (.slice a8 sd.sess.length c8)) (stateC sd (.slice d1 sd.users.length e1) (.slice d2 sd.roles.length e2) (.slice d3 sd.models.length e3) (.slice d4 sd.cases.length e4) (.slice d5 sd.timers.length e5) (.slice d6 sd.works.length e6) (.slice d7 sd.audit.length e7) (.slice d8 sd.sess.length e8)))) (fun j _ => sd.cases.length - (intOf j).toNat)
              case atStart => exact ⟨0, Nat.zero_le _, rfl, HS.out⟩
              case round =>
                clear HS
                obtain ⟨m, hml, rfl, HS⟩ := hrel
                have k3 := HS.out.cp 5 _ rfl
                have q3 := HS.out.cq 5 _ rfl
                by_cases hlt : m < sd.cases.length
                · obtain ⟨rfl, -, -⟩ := H7.out.at0 (by omega)
                  obtain ⟨rfl, -, -⟩ := H8.out.at0 (by omega)
                  obtain ⟨us0, hr, hcell⟩ := H7.out.row m hlt
                  obtain ⟨us1, hr2, hcell2⟩ := H8.out.row m hlt
                  have hso := HO.out.co _ (List.getElem_mem hlt)
                  obtain ⟨st, hst⟩ : ∃ st, sd.cases[m] = st := ⟨_, rfl⟩
                  rw [hst] at hr hr2 hso
                  have hg := hr
                  have hg2 := hr2
                  obtain ⟨x1, y1, x2, y2, x3, y3, x4, y4, rfl, -⟩ := CaseD.cells hr
                  obtain ⟨s1, t1, s2, t2, s3, t3, s4, t4, rfl, -⟩ := CaseD.cells hr2
                  have HC1 := Lib.hid (fun W (hb : Below w.heap.size w W) => caseSame st hso _ _ W (hg.grow hb) (hg2.grow hb))
                  have HP : Hid (∀ W, B2 35 14 w W (stateC sd (.slice a1 sd.users.length c1) (.slice a2 sd.roles.length c2) (.slice a3 sd.models.length c3) (.slice (some ⟨b7, o7, none⟩) sd.cases.length c4) (.slice a5 sd.timers.length c5) (.slice a6 sd.works.length c6) (.slice a7 sd.audit.length c7) (.slice a8 sd.sess.length c8)) (stateC sd (.slice d1 sd.users.length e1) (.slice d2 sd.roles.length e2) (.slice d3 sd.models.length e3) (.slice (some ⟨b8, o8, none⟩) sd.cases.length e4) (.slice d5 sd.timers.length e5) (.slice d6 sd.works.length e6) (.slice d7 sd.audit.length e7) (.slice d8 sd.sess.length e8)) → W.cell? ⟨w.heap.size, 5, none⟩ = some (.slice (some ⟨b7, o7, none⟩) sd.cases.length c4) ∧ W.cell? ⟨w.heap.size + 1, 5, none⟩ = some (.slice (some ⟨b8, o8, none⟩) sd.cases.length e4) ∧ W.cell? ⟨b7, o7 + m * 7, none⟩ = some (.int .i64 st.id) ∧ W.cell? ⟨b7, o7 + m * 7 + 1, none⟩ = some (.string st.model) ∧ W.cell? ⟨b7, o7 + m * 7 + 2, none⟩ = some (.int .i64 st.version) ∧ W.cell? ⟨b7, o7 + m * 7 + 3, none⟩ = some (.slice x1 st.values.length y1) ∧ W.cell? ⟨b7, o7 + m * 7 + 4, none⟩ = some (.slice x2 st.opn.length y2) ∧ W.cell? ⟨b7, o7 + m * 7 + 5, none⟩ = some (.slice x3 st.done.length y3) ∧ W.cell? ⟨b7, o7 + m * 7 + 6, none⟩ = some (.slice x4 st.acted.length y4) ∧ W.cell? ⟨b8, o8 + m * 7, none⟩ = some (.int .i64 st.id) ∧ W.cell? ⟨b8, o8 + m * 7 + 1, none⟩ = some (.string st.model) ∧ W.cell? ⟨b8, o8 + m * 7 + 2, none⟩ = some (.int .i64 st.version) ∧ W.cell? ⟨b8, o8 + m * 7 + 3, none⟩ = some (.slice s1 st.values.length t1) ∧ W.cell? ⟨b8, o8 + m * 7 + 4, none⟩ = some (.slice s2 st.opn.length t2) ∧ W.cell? ⟨b8, o8 + m * 7 + 5, none⟩ = some (.slice s3 st.done.length t3) ∧ W.cell? ⟨b8, o8 + m * 7 + 6, none⟩ = some (.slice s4 st.acted.length t4)) := by
                    intro W hW
                    exact ⟨hW.cp 5 _ rfl, hW.cq 5 _ rfl, cellBelow2 hW.below (hcell 0 _ rfl), cellBelow2 hW.below (hcell 1 _ rfl), cellBelow2 hW.below (hcell 2 _ rfl), cellBelow2 hW.below (hcell 3 _ rfl), cellBelow2 hW.below (hcell 4 _ rfl), cellBelow2 hW.below (hcell 5 _ rfl), cellBelow2 hW.below (hcell 6 _ rfl), cellBelow2 hW.below (hcell2 0 _ rfl), cellBelow2 hW.below (hcell2 1 _ rfl), cellBelow2 hW.below (hcell2 2 _ rfl), cellBelow2 hW.below (hcell2 3 _ rfl), cellBelow2 hW.below (hcell2 4 _ rfl), cellBelow2 hW.below (hcell2 5 _ rfl), cellBelow2 hW.below (hcell2 6 _ rfl)⟩
                  have i1 : (0 : Int) ≤ (m : Int) := by omega
                  have i2 : (m : Int) < (sd.cases.length : Int) := by omega
                  clear hr hr2 hcell hcell2 hso hst HT HW HR H7 H8 H9 H10
                  go_upto_region 23 with fail
                  clear k3 q3
                  go_region_held3 (fun W => B2 35 14 w W (stateC sd (.slice a1 sd.users.length c1) (.slice a2 sd.roles.length c2) (.slice a3 sd.models.length c3) (.slice (some ⟨b7, o7, none⟩) sd.cases.length c4) (.slice a5 sd.timers.length c5) (.slice a6 sd.works.length c6) (.slice a7 sd.audit.length c7) (.slice a8 sd.sess.length c8)) (stateC sd (.slice d1 sd.users.length e1) (.slice d2 sd.roles.length e2) (.slice d3 sd.models.length e3) (.slice (some ⟨b8, o8, none⟩) sd.cases.length e4) (.slice d5 sd.timers.length e5) (.slice d6 sd.works.length e6) (.slice d7 sd.audit.length e7) (.slice d8 sd.sess.length e8)) ∧ W.cell? ⟨w.heap.size, 5, none⟩ = some (.slice (some ⟨b7, o7, none⟩) sd.cases.length c4) ∧ W.cell? ⟨w.heap.size + 1, 5, none⟩ = some (.slice (some ⟨b8, o8, none⟩) sd.cases.length e4) ∧ W.cell? ⟨b7, o7 + m * 7, none⟩ = some (.int .i64 st.id) ∧ W.cell? ⟨b7, o7 + m * 7 + 1, none⟩ = some (.string st.model) ∧ W.cell? ⟨b7, o7 + m * 7 + 2, none⟩ = some (.int .i64 st.version) ∧ W.cell? ⟨b7, o7 + m * 7 + 3, none⟩ = some (.slice x1 st.values.length y1) ∧ W.cell? ⟨b7, o7 + m * 7 + 4, none⟩ = some (.slice x2 st.opn.length y2) ∧ W.cell? ⟨b7, o7 + m * 7 + 5, none⟩ = some (.slice x3 st.done.length y3) ∧ W.cell? ⟨b7, o7 + m * 7 + 6, none⟩ = some (.slice x4 st.acted.length y4) ∧ W.cell? ⟨b8, o8 + m * 7, none⟩ = some (.int .i64 st.id) ∧ W.cell? ⟨b8, o8 + m * 7 + 1, none⟩ = some (.string st.model) ∧ W.cell? ⟨b8, o8 + m * 7 + 2, none⟩ = some (.int .i64 st.version) ∧ W.cell? ⟨b8, o8 + m * 7 + 3, none⟩ = some (.slice s1 st.values.length t1) ∧ W.cell? ⟨b8, o8 + m * 7 + 4, none⟩ = some (.slice s2 st.opn.length t2) ∧ W.cell? ⟨b8, o8 + m * 7 + 5, none⟩ = some (.slice s3 st.done.length t3) ∧ W.cell? ⟨b8, o8 + m * 7 + 6, none⟩ = some (.slice s4 st.acted.length t4))
                    (first | exact ⟨HS.out.drew, HP.out _ HS.out.drew⟩ | exact (fun h => ⟨h, HP.out _ h⟩) (by assumption))
                    ((first
                        | (go_at_call 18; refine (HC1.out _ (B2.below (And.left (by assumption)))).mono ?_; rintro e W' ⟨rfl, hbw⟩; have hsw := B2.call (And.left (by assumption)) hbw; clear HC1)))
                  all_goals
                    rename_i hS
                    have hS1 := Lib.hid hS.1
                    have wr1 : IntKind.i64.wrap ((m : Int) + 1) = (m : Int) + 1 := wrap_i64 (by omega) (by have := HO.out.cl; omega)
                    clear hS HS HP
                    go_wp2_with fail
                    go_roundw
                    case rel => exact ⟨m + 1, by omega, by go_num, hS1⟩
                    case measure => simp [intOf]; omega
                · have i1 : ¬ (m : Int) < (sd.cases.length : Int) := by omega
                  clear H7 H8
                  have k9 := HS.out.cp 9 _ rfl
                  have q9 := HS.out.cq 9 _ rfl
                  go_wp2_with fail
                  go_loopw [9] (fun j wx => ∃ p n : Nat, p ≤ sd.sess.length ∧ j = .int .i64 p ∧ wx = wr.drewN n) (fun j _ => sd.sess.length - (intOf j).toNat)
                  case atStart => exact ⟨0, 0, Nat.zero_le _, rfl, rfl⟩
                  case round =>
                    obtain ⟨p, n, hpl, rfl, hwx⟩ := hrel
                    subst hwx
                    by_cases hlt : p < sd.sess.length
                    · obtain ⟨rfl, -, -⟩ := H9.out.at0 (by omega)
                      obtain ⟨rfl, -, -⟩ := H10.out.at0 (by omega)
                      have x0 := cellBelow2 HS.out.below (H9.out.cell p hlt 0 _ rfl)
                      have x1 := cellBelow2 HS.out.below (H9.out.cell p hlt 1 _ rfl)
                      have x2 := cellBelow2 HS.out.below (H9.out.cell p hlt 2 _ rfl)
                      have y0 := cellBelow2 HS.out.below (H10.out.cell p hlt 0 _ rfl)
                      have y1 := cellBelow2 HS.out.below (H10.out.cell p hlt 1 _ rfl)
                      have y2 := cellBelow2 HS.out.below (H10.out.cell p hlt 2 _ rfl)
                      simp only [Nat.add_zero] at x0 y0
                      obtain ⟨⟨s, t, u⟩, hs⟩ : ∃ s, sd.sess[p] = s := ⟨_, rfl⟩
                      rw [hs] at x0 x1 x2 y0 y1 y2
                      have i1 : (0 : Int) ≤ (p : Int) := by omega
                      have i2 : (p : Int) < (sd.sess.length : Int) := by omega
                      have wr1 : IntKind.i64.wrap ((p : Int) + 1) = (p : Int) + 1 := wrap_i64 (by omega) (by have := HO.out.sl; omega)
                      clear hs HT HW HR
                      go_wp2_with fail
                      go_quiet (fail)
                      go_wp2_with fail
                      go_roundw
                      case rel => exact ⟨p + 1, _, by omega, by go_num, rfl⟩
                      case measure => simp [intOf]; omega
                    · have i1 : ¬ (p : Int) < (sd.sess.length : Int) := by omega
                      have HS2 := Lib.hid (HS.out.drewN n)
                      clear HS
                      have k6 := HS2.out.cp 6 _ rfl
                      have q6 := HS2.out.cq 6 _ rfl
                      go_wp2_with fail
                      refine (HT.out _ HS2.out.below).mono ?_
                      rintro e w3 ⟨rfl, hb3⟩
                      have HS3 := Lib.hid (HS2.out.call hb3)
                      clear HS2 hb3 k6 q6 k9 q9 HT
                      have k7 := HS3.out.cp 7 _ rfl
                      have q7 := HS3.out.cq 7 _ rfl
                      go_wp2_with fail
                      refine (HW.out _ HS3.out.below).mono ?_
                      rintro e w4 ⟨rfl, hb4⟩
                      have HS4 := Lib.hid (HS3.out.call hb4)
                      clear HS3 hb4 k7 q7 HW
                      have k8 := HS4.out.cp 8 _ rfl
                      have q8 := HS4.out.cq 8 _ rfl
                      go_wp2_with fail
                      refine (HR.out _ HS4.out.below).mono ?_
                      rintro e w5 ⟨rfl, hb5⟩
                      have HS5 := Lib.hid (HS4.out.call hb5)
                      go_wp2_with fail
                      go_ret
                      exact ⟨rfl, HS5.out.below⟩
end Go.Proofs.YtinijohmdljieaaGreatDoor
