/- docketlaw24.spoil: the walk. -/
import Derived.Test.YtinijohmdljieaaGreatDoorH21
namespace Go.Proofs.YtinijohmdljieaaGreatDoor
open Go.RowKit

set_option maxHeartbeats 16000000 in
set_option maxRecDepth 100000 in
theorem spoilM (sd : StateD) (h3 : sd.roles = []) (h6 : sd.timers = []) (h7 : sd.works = []) (h8 : sd.audit = []) (h9 : sd.sess = []) (hul : sd.users.length ≤ 1048576) (hml : sd.models.length ≤ 1048576) (hcl : sd.cases.length ≤ 1048576)
    (hur : ∀ u ∈ sd.users, u.rs.length ≤ 1048576) (hms : ∀ v ∈ sd.models, v.m.stages.length ≤ 1048576 ∧ ∀ s ∈ v.m.stages, s.opens.length ≤ 1048576) (hco : ∀ c ∈ sd.cases, c.opn.length ≤ 1048576)
    (lo : Nat) (us : List Value) (w : World) (hs : ShpL lo w sd.ds us) (hlo : lo ≤ w.heap.size) : Calls Tryz.prog 19 #[.agg us.toArray] w fun e w' => e = .returned (.tuple #[]) ∧ Below lo w w' := by
  have hin : ∃ x0 x1 x2 x3 x4 x5 x6 x7 x8 x9 x10 x11 x12 x13, us = [x0, x1, x2, x3, x4, x5, x6, x7, x8, x9, x10, x11, x12, x13] := by
    have hl := hs.1
    match us, hl with
    | [x0, x1, x2, x3, x4, x5, x6, x7, x8, x9, x10, x11, x12, x13], _ => exact ⟨x0, x1, x2, x3, x4, x5, x6, x7, x8, x9, x10, x11, x12, x13, rfl⟩
  obtain ⟨x0, x1, x2, x3, x4, x5, x6, x7, x8, x9, x10, x11, x12, x13, rfl⟩ := hin
  have HX := Lib.hid (⟨(Below.refl lo w).alloc hlo _, shp_box 35 hs hlo⟩ : SPI lo w.heap.size sd w (w.alloc (.cells #[x0, x1, x2, x3, x4, x5, x6, x7, x8, x9, x10, x11, x12, x13] 35)))
  have n3 : Hid (sd.roles.length = 0) := by show _ = _; rw [h3]; rfl
  have n6 : Hid (sd.timers.length = 0) := by show _ = _; rw [h6]; rfl
  have n7 : Hid (sd.works.length = 0) := by show _ = _; rw [h7]; rfl
  have n8 : Hid (sd.audit.length = 0) := by show _ = _; rw [h8]; rfl
  have n9 : Hid (sd.sess.length = 0) := by show _ = _; rw [h9]; rfl
  have HUR := Lib.hid hur
  have HMS := Lib.hid hms
  have HCO := Lib.hid hco
  have HLO := Lib.hid hlo
  clear hs h3 h6 h7 h8 h9 hur hms hco hlo
  go_enter Tryz.func19, Tryz.ntmps19
  go_upto_region 1 with fail
  revert HX
  generalize w.alloc (.cells #[x0, x1, x2, x3, x4, x5, x6, x7, x8, x9, x10, x11, x12, x13] 35) = W0
  intro HX
  go_wp2_with fail
  go_loopw [2] (fun i wr => ∃ m : Nat, m ≤ sd.users.length ∧ i = .int .i64 (m : Int) ∧ Hid (SPI lo w.heap.size sd w wr)) (fun i _ => sd.users.length - (intOf i).toNat)
  case atStart => exact ⟨0, Nat.zero_le _, rfl, HX.out⟩
  case round =>
    clear HX
    obtain ⟨m, hmu, rfl, HX⟩ := hrel
    by_cases hlt : m < sd.users.length
    · have i1 : (m : Int) < (sd.users.length : Int) := by omega
      have i2 : (0 : Int) ≤ (m : Int) := by omega
      have wr1 : IntKind.i64.wrap ((m : Int) + 1) = (m : Int) + 1 := wrap_i64 (by omega) (by omega)
      have hrl := HUR.out _ (List.getElem_mem hlt)
      have HLT := Lib.hid hlt
      obtain ⟨a2, a3, a4, a5, a6, a7, a8, a9, c2, c3, c4, c5, c6, c7, c8, c9, hC⟩ := HX.out.cells
      have k2 := hC.k2
      clear hC hmu
      go_wp2_with fail
      clear k2
      go_loopw [3] (fun i wr => ∃ q : Nat, q ≤ sd.users[m].rs.length ∧ i = .int .i64 (q : Int) ∧ Hid (SPI lo w.heap.size sd w wr)) (fun i _ => sd.users[m].rs.length - (intOf i).toNat)
      case atStart => exact ⟨0, Nat.zero_le _, rfl, HX.out⟩
      case round =>
        clear HX
        obtain ⟨q, hq, rfl, HX⟩ := hrel
        obtain ⟨a2, a3, a4, a5, a6, a7, a8, a9, c2, c3, c4, c5, c6, c7, c8, c9, hC⟩ := HX.out.cells
        have k2 := hC.k2
        obtain ⟨b, off, t, ra, rc, rfl, hlb, hU⟩ := hC.u.user HLT.out
        have k3 := hU.c3
        by_cases hlq : q < sd.users[m].rs.length
        · obtain ⟨b2, off2, t2, rfl, hlb2, k0, f0⟩ := hU.s3.text hlq
          have j1 : (q : Int) < (sd.users[m].rs.length : Int) := by omega
          have j2 : (0 : Int) ≤ (q : Int) := by omega
          have wr2 : IntKind.i64.wrap ((q : Int) + 1) = (q : Int) + 1 := wrap_i64 (by omega) (by omega)
          have HY := Lib.hid (HX.out.set (y := .string ⟨#[55, 55]⟩) k0 (.str _ _) hlb2)
          have HQ := Lib.hid hlq
          clear hC hU hlb hlb2 hlq HX hq
          go_wp2_with fail
          exact ⟨⟨q + 1, HQ.out, by go_num, HY⟩, by have := HQ.out; simp only [intOf]; omega⟩
        · have j1 : ¬ (q : Int) < (sd.users[m].rs.length : Int) := by omega
          have k0 := hU.c0
          have f0 := hU.f0
          have HY := Lib.hid (HX.out.set (y := .string ⟨#[55, 55]⟩) k0 (.str _ _) hlb)
          clear hC hU hlb hlq HX hq
          go_wp2_with fail
          exact ⟨⟨m + 1, HLT.out, by go_num, HY⟩, by have := HLT.out; simp only [intOf]; omega⟩
    · have i1 : ¬ (m : Int) < (sd.users.length : Int) := by omega
      obtain ⟨a2, a3, a4, a5, a6, a7, a8, a9, c2, c3, c4, c5, c6, c7, c8, c9, hC⟩ := HX.out.cells
      have k2 := hC.k2
      clear hC hlt hmu
      go_wp2_with fail
      try clear k2
      try clear kz
      try clear i1
      go_loopw [4] (fun i wr => i = .int .i64 0 ∧ Hid (SPI lo w.heap.size sd w wr)) (fun _ _ => 0)
      case atStart => exact ⟨rfl, HX.out⟩
      case round =>
        clear HX
        obtain ⟨rfl, HX⟩ := hrel
        obtain ⟨a2, a3, a4, a5, a6, a7, a8, a9, c2, c3, c4, c5, c6, c7, c8, c9, hC⟩ := HX.out.cells
        have kz := hC.k3
        rw [n3.out] at kz
        clear hC
        go_wp2_with fail
        clear kz
        go_loopw [6] (fun i wr => ∃ m : Nat, m ≤ sd.models.length ∧ i = .int .i64 (m : Int) ∧ Hid (SPI lo w.heap.size sd w wr)) (fun i _ => sd.models.length - (intOf i).toNat)
        case atStart => exact ⟨0, Nat.zero_le _, rfl, HX.out⟩
        case round =>
          clear HX
          obtain ⟨m, hmu, rfl, HX⟩ := hrel
          by_cases hlt : m < sd.models.length
          · have i1 : (m : Int) < (sd.models.length : Int) := by omega
            have i2 : (0 : Int) ≤ (m : Int) := by omega
            have wr1 : IntKind.i64.wrap ((m : Int) + 1) = (m : Int) + 1 := wrap_i64 (by omega) (by omega)
            have HLT := Lib.hid hlt
            obtain ⟨hsl, hso⟩ := HMS.out _ (List.getElem_mem hlt)
            obtain ⟨a2, a3, a4, a5, a6, a7, a8, a9, c2, c3, c4, c5, c6, c7, c8, c9, hC⟩ := HX.out.cells
            have k4 := hC.k4
            obtain ⟨b, off, t, d1, e1, d2, e2, d3, e3, d4, e4, d5, e5, rfl, hlb, hS, r0, r1, r2, r3, r4, r5⟩ := hC.m.ver hlt
            generalize (sd.models[m]'hlt).m = md at hsl hso hS r1 r2 r3 r4 r5
            have HSO := Lib.hid hso
            have HY := Lib.hid (HX.out.alloc HLO.out 53 hS)
            clear hC hlt hmu hso hS HX hlb
            go_wp2_with fail
            clear k4 r0 r1 r2 r3 r4 r5
            revert HY
            generalize wr.alloc (.cells #[.string t, .slice d1 md.attrs.length e1, .slice d2 md.events.length e2, .slice d3 md.stages.length e3, .slice d4 md.stones.length e4, .slice d5 md.apart.length e5] 53) = W1
            generalize wr.heap.size = B2
            intro HY
            go_loopw [8] (fun i wr => ∃ p : Nat, p ≤ md.stages.length ∧ i = .int .i64 (p : Int) ∧ Hid (SPM lo w.heap.size B2 sd md w wr)) (fun i _ => md.stages.length - (intOf i).toNat)
            case atStart => exact ⟨0, Nat.zero_le _, rfl, HY.out⟩
            case round =>
              clear HY
              obtain ⟨p, hp, rfl, HX⟩ := hrel
              obtain ⟨sa, sc, k3, hSt⟩ := HX.out.m.mbox
              by_cases hlp : p < md.stages.length
              · have j1 : (p : Int) < (md.stages.length : Int) := by omega
                have j2 : (0 : Int) ≤ (p : Int) := by omega
                have wr2 : IntKind.i64.wrap ((p : Int) + 1) = (p : Int) + 1 := wrap_i64 (by omega) (by omega)
                have hol := HSO.out _ (List.getElem_mem hlp)
                have HLP := Lib.hid hlp
                clear hSt hp
                go_wp2_with fail
                clear k3
                go_loopw [9] (fun i wr => ∃ q : Nat, q ≤ md.stages[p].opens.length ∧ i = .int .i64 (q : Int) ∧ Hid (SPM lo w.heap.size B2 sd md w wr)) (fun i _ => md.stages[p].opens.length - (intOf i).toNat)
                case atStart => exact ⟨0, Nat.zero_le _, rfl, HX.out⟩
                case round =>
                  clear HX
                  obtain ⟨q, hq, rfl, HX⟩ := hrel
                  obtain ⟨sa, sc, k3, hSt⟩ := HX.out.m.mbox
                  obtain ⟨b, off, t, ra, rc, rfl, hlb, hU⟩ := hSt.stage HLP.out
                  have k2 := hU.c2
                  by_cases hlq : q < md.stages[p].opens.length
                  · obtain ⟨b2, off2, t2, rfl, hlb2, k0, f0⟩ := hU.s2.sen hlq
                    have l1 : (q : Int) < (md.stages[p].opens.length : Int) := by omega
                    have l2 : (0 : Int) ≤ (q : Int) := by omega
                    have wr3 : IntKind.i64.wrap ((q : Int) + 1) = (q : Int) + 1 := wrap_i64 (by omega) (by omega)
                    have HY := Lib.hid (HX.out.set (y := .string ⟨#[55, 55]⟩) k0 (.str _ _) hlb2)
                    have HQ := Lib.hid hlq
                    clear hSt hU hlb hlb2 hlq HX hq
                    go_wp2_with fail
                    exact ⟨⟨q + 1, HQ.out, by go_num, HY⟩, by have := HQ.out; simp only [intOf]; omega⟩
                  · have l1 : ¬ (q : Int) < (md.stages[p].opens.length : Int) := by omega
                    have k0 := hU.c0
                    have f0 := hU.f0
                    have HY := Lib.hid (HX.out.set (y := .string ⟨#[55, 55]⟩) k0 (.str _ _) hlb)
                    clear hSt hU hlb hlq HX hq
                    go_wp2_with fail
                    exact ⟨⟨p + 1, HLP.out, by go_num, HY⟩, by have := HLP.out; simp only [intOf]; omega⟩
              · have j1 : ¬ (p : Int) < (md.stages.length : Int) := by omega
                have HY := Lib.hid HX.out.s
                clear hSt hlp hp HX
                go_wp2_with fail
                exact ⟨⟨m + 1, HLT.out, by go_num, HY⟩, by have := HLT.out; simp only [intOf]; omega⟩
          · have i1 : ¬ (m : Int) < (sd.models.length : Int) := by omega
            obtain ⟨a2, a3, a4, a5, a6, a7, a8, a9, c2, c3, c4, c5, c6, c7, c8, c9, hC⟩ := HX.out.cells
            have k4 := hC.k4
            clear hC hlt hmu
            go_wp2_with fail
            clear k4 i1
            go_loopw [10] (fun i wr => ∃ m : Nat, m ≤ sd.cases.length ∧ i = .int .i64 (m : Int) ∧ Hid (SPI lo w.heap.size sd w wr)) (fun i _ => sd.cases.length - (intOf i).toNat)
            case atStart => exact ⟨0, Nat.zero_le _, rfl, HX.out⟩
            case round =>
              clear HX
              obtain ⟨m, hmu, rfl, HX⟩ := hrel
              by_cases hlt : m < sd.cases.length
              · have i1 : (m : Int) < (sd.cases.length : Int) := by omega
                have i2 : (0 : Int) ≤ (m : Int) := by omega
                have wr1 : IntKind.i64.wrap ((m : Int) + 1) = (m : Int) + 1 := wrap_i64 (by omega) (by omega)
                have hrl := HCO.out _ (List.getElem_mem hlt)
                have HLT := Lib.hid hlt
                obtain ⟨a2, a3, a4, a5, a6, a7, a8, a9, c2, c3, c4, c5, c6, c7, c8, c9, hC⟩ := HX.out.cells
                have k5 := hC.k5
                clear hC hmu
                go_wp2_with fail
                clear k5
                go_loopw [11] (fun i wr => ∃ q : Nat, q ≤ sd.cases[m].opn.length ∧ i = .int .i64 (q : Int) ∧ Hid (SPI lo w.heap.size sd w wr)) (fun i _ => sd.cases[m].opn.length - (intOf i).toNat)
                case atStart => exact ⟨0, Nat.zero_le _, rfl, HX.out⟩
                case round =>
                  clear HX
                  obtain ⟨q, hq, rfl, HX⟩ := hrel
                  obtain ⟨a2, a3, a4, a5, a6, a7, a8, a9, c2, c3, c4, c5, c6, c7, c8, c9, hC⟩ := HX.out.cells
                  have k5 := hC.k5
                  obtain ⟨b, off, t, ra, rc, rfl, hlb, hU⟩ := hC.c.cas HLT.out
                  have k3 := hU.c4
                  by_cases hlq : q < sd.cases[m].opn.length
                  · obtain ⟨b2, off2, t2, rfl, hlb2, k0, f0⟩ := hU.s4.truth hlq
                    have j1 : (q : Int) < (sd.cases[m].opn.length : Int) := by omega
                    have j2 : (0 : Int) ≤ (q : Int) := by omega
                    have wr2 : IntKind.i64.wrap ((q : Int) + 1) = (q : Int) + 1 := wrap_i64 (by omega) (by omega)
                    have HY := Lib.hid ((HX.out.call HLO.out (Below.refl _ _).drew).set (p := ⟨b2, off2 + q, none⟩) (x := .bool t2) (y := .bool !t2) k0 (.boo _ _) hlb2)
                    have HQ := Lib.hid hlq
                    clear hC hU hlb hlb2 hlq HX hq
                    go_upto_region 35 with fail
                    refine Until.start (S := fun W => W = wr.drew) (st := 18) (by kernel_rfl) ?_
                    have hH := (rfl : wr.drew = wr.drew)
                    refine Until.take (i := 0) (oi := { dst := some 141, op := Op.fieldAddr 35 (Operand.tmp 1) 5, type := 0, pos := "law.go:37", after := #[], guard := none }) (v := .pointer (some ⟨w.heap.size, 5, none⟩)) rfl (by kernel_rfl) (by kernel_rfl) (by kernel_rfl) (fun _ _ _ h => h) (by decide) (Or.inl ⟨by rfl, fun W _ => by go_simp⟩) (fun _ => hH) ?_
                    simp only [Act.put, List.setIfInBounds_toArray, List.set_cons_zero, List.set_cons_succ]
                    refine Until.load (i := 1) (oi := { dst := some 142, op := Op.load 29 (Operand.tmp 141), type := 29, pos := "law.go:37", after := #[{ on := 0, ground := Ground.data }], guard := none }) (v := .slice (some ⟨b, off, none⟩) sd.cases.length c5) rfl (by kernel_rfl) (by kernel_rfl) (by kernel_rfl) (fun _ _ _ h => h) (by decide) (by kernel_rfl) (by kernel_rfl) (Or.inl ⟨by rfl, fun W hS => by subst hS; go_simp⟩) hH ?_
                    simp only [Act.put, List.setIfInBounds_toArray, List.set_cons_zero, List.set_cons_succ]
                    refine Until.take (i := 2) (oi := { dst := some 143, op := Op.move (Operand.tmp 10), type := 3, pos := "law.go:37", after := #[], guard := none }) (v := .int .i64 (m : Int)) rfl (by kernel_rfl) (by kernel_rfl) (by kernel_rfl) (fun _ _ _ h => h) (by decide) (Or.inl ⟨by rfl, fun W _ => by go_simp⟩) (fun _ => hH) ?_
                    simp only [Act.put, List.setIfInBounds_toArray, List.set_cons_zero, List.set_cons_succ]
                    refine Until.take (i := 3) (oi := { dst := some 144, op := Op.indexAddr 29 (Operand.tmp 142) (Operand.tmp 143), type := 0, pos := "law.go:37", after := #[{ on := 1, ground := Ground.data }, { on := 2, ground := Ground.data }], guard := none }) (v := .pointer (some ⟨b, off + m * 7, none⟩)) rfl (by kernel_rfl) (by kernel_rfl) (by kernel_rfl) (fun _ _ _ h => h) (by decide) (Or.inl ⟨by rfl, fun W _ => by go_simp⟩) (fun _ => hH) ?_
                    simp only [Act.put, List.setIfInBounds_toArray, List.set_cons_zero, List.set_cons_succ]
                    refine Until.take (i := 4) (oi := { dst := some 145, op := Op.fieldAddr 64 (Operand.tmp 144) 4, type := 0, pos := "law.go:37", after := #[{ on := 3, ground := Ground.data }], guard := none }) (v := .pointer (some ⟨b, off + m * 7 + 4, none⟩)) rfl (by kernel_rfl) (by kernel_rfl) (by kernel_rfl) (fun _ _ _ h => h) (by decide) (Or.inl ⟨by rfl, fun W _ => by go_simp⟩) (fun _ => hH) ?_
                    simp only [Act.put, List.setIfInBounds_toArray, List.set_cons_zero, List.set_cons_succ]
                    refine Until.load (i := 5) (oi := { dst := some 146, op := Op.load 61 (Operand.tmp 145), type := 61, pos := "law.go:37", after := #[{ on := 4, ground := Ground.data }], guard := none }) (v := .slice (some ⟨b2, off2, none⟩) sd.cases[m].opn.length rc) rfl (by kernel_rfl) (by kernel_rfl) (by kernel_rfl) (fun _ _ _ h => h) (by decide) (by kernel_rfl) (by kernel_rfl) (Or.inl ⟨by rfl, fun W hS => by subst hS; go_simp; try rfl⟩) hH ?_
                    simp only [Act.put, List.setIfInBounds_toArray, List.set_cons_zero, List.set_cons_succ]
                    refine Until.take (i := 6) (oi := { dst := some 147, op := Op.move (Operand.tmp 11), type := 3, pos := "law.go:37", after := #[], guard := none }) (v := .int .i64 (q : Int)) rfl (by kernel_rfl) (by kernel_rfl) (by kernel_rfl) (fun _ _ _ h => h) (by decide) (Or.inl ⟨by rfl, fun W _ => by go_simp⟩) (fun _ => hH) ?_
                    simp only [Act.put, List.setIfInBounds_toArray, List.set_cons_zero, List.set_cons_succ]
                    refine Until.take (i := 7) (oi := { dst := some 148, op := Op.fieldAddr 35 (Operand.tmp 1) 5, type := 0, pos := "law.go:37", after := #[], guard := none }) (v := .pointer (some ⟨w.heap.size, 5, none⟩)) rfl (by kernel_rfl) (by kernel_rfl) (by kernel_rfl) (fun _ _ _ h => h) (by decide) (Or.inl ⟨by rfl, fun W _ => by go_simp⟩) (fun _ => hH) ?_
                    simp only [Act.put, List.setIfInBounds_toArray, List.set_cons_zero, List.set_cons_succ]
                    refine Until.load (i := 8) (oi := { dst := some 149, op := Op.load 29 (Operand.tmp 148), type := 29, pos := "law.go:37", after := #[{ on := 7, ground := Ground.data }], guard := none }) (v := .slice (some ⟨b, off, none⟩) sd.cases.length c5) rfl (by kernel_rfl) (by kernel_rfl) (by kernel_rfl) (fun _ _ _ h => h) (by decide) (by kernel_rfl) (by kernel_rfl) (Or.inl ⟨by rfl, fun W hS => by subst hS; go_simp⟩) hH ?_
                    simp only [Act.put, List.setIfInBounds_toArray, List.set_cons_zero, List.set_cons_succ]
                    refine Until.take (i := 9) (oi := { dst := some 150, op := Op.move (Operand.tmp 10), type := 3, pos := "law.go:37", after := #[], guard := none }) (v := .int .i64 (m : Int)) rfl (by kernel_rfl) (by kernel_rfl) (by kernel_rfl) (fun _ _ _ h => h) (by decide) (Or.inl ⟨by rfl, fun W _ => by go_simp⟩) (fun _ => hH) ?_
                    simp only [Act.put, List.setIfInBounds_toArray, List.set_cons_zero, List.set_cons_succ]
                    refine Until.take (i := 10) (oi := { dst := some 151, op := Op.indexAddr 29 (Operand.tmp 149) (Operand.tmp 150), type := 0, pos := "law.go:37", after := #[{ on := 8, ground := Ground.data }, { on := 9, ground := Ground.data }], guard := none }) (v := .pointer (some ⟨b, off + m * 7, none⟩)) rfl (by kernel_rfl) (by kernel_rfl) (by kernel_rfl) (fun _ _ _ h => h) (by decide) (Or.inl ⟨by rfl, fun W _ => by go_simp⟩) (fun _ => hH) ?_
                    simp only [Act.put, List.setIfInBounds_toArray, List.set_cons_zero, List.set_cons_succ]
                    refine Until.take (i := 11) (oi := { dst := some 152, op := Op.fieldAddr 64 (Operand.tmp 151) 4, type := 0, pos := "law.go:37", after := #[{ on := 10, ground := Ground.data }], guard := none }) (v := .pointer (some ⟨b, off + m * 7 + 4, none⟩)) rfl (by kernel_rfl) (by kernel_rfl) (by kernel_rfl) (fun _ _ _ h => h) (by decide) (Or.inl ⟨by rfl, fun W _ => by go_simp⟩) (fun _ => hH) ?_
                    simp only [Act.put, List.setIfInBounds_toArray, List.set_cons_zero, List.set_cons_succ]
                    refine Until.load (i := 12) (oi := { dst := some 153, op := Op.load 61 (Operand.tmp 152), type := 61, pos := "law.go:37", after := #[{ on := 11, ground := Ground.data }], guard := none }) (v := .slice (some ⟨b2, off2, none⟩) sd.cases[m].opn.length rc) rfl (by kernel_rfl) (by kernel_rfl) (by kernel_rfl) (fun _ _ _ h => h) (by decide) (by kernel_rfl) (by kernel_rfl) (Or.inl ⟨by rfl, fun W hS => by subst hS; go_simp; try rfl⟩) hH ?_
                    simp only [Act.put, List.setIfInBounds_toArray, List.set_cons_zero, List.set_cons_succ]
                    refine Until.take (i := 13) (oi := { dst := some 154, op := Op.move (Operand.tmp 11), type := 3, pos := "law.go:37", after := #[], guard := none }) (v := .int .i64 (q : Int)) rfl (by kernel_rfl) (by kernel_rfl) (by kernel_rfl) (fun _ _ _ h => h) (by decide) (Or.inl ⟨by rfl, fun W _ => by go_simp⟩) (fun _ => hH) ?_
                    simp only [Act.put, List.setIfInBounds_toArray, List.set_cons_zero, List.set_cons_succ]
                    refine Until.take (i := 14) (oi := { dst := some 155, op := Op.indexAddr 61 (Operand.tmp 153) (Operand.tmp 154), type := 0, pos := "law.go:37", after := #[{ on := 12, ground := Ground.data }, { on := 13, ground := Ground.data }], guard := none }) (v := .pointer (some ⟨b2, off2 + q, none⟩)) rfl (by kernel_rfl) (by kernel_rfl) (by kernel_rfl) (fun _ _ _ h => h) (by decide) (Or.inl ⟨by rfl, fun W _ => by go_simp⟩) (fun _ => hH) ?_
                    simp only [Act.put, List.setIfInBounds_toArray, List.set_cons_zero, List.set_cons_succ]
                    refine Until.load (i := 15) (oi := { dst := some 156, op := Op.load 4 (Operand.tmp 155), type := 4, pos := "law.go:37", after := #[{ on := 14, ground := Ground.data }], guard := none }) (v := .bool t2) rfl (by kernel_rfl) (by kernel_rfl) (by kernel_rfl) (fun _ _ _ h => h) (by decide) (by kernel_rfl) (by kernel_rfl) (Or.inl ⟨by rfl, fun W hS => by subst hS; go_simp⟩) hH ?_
                    simp only [Act.put, List.setIfInBounds_toArray, List.set_cons_zero, List.set_cons_succ]
                    refine Until.take (i := 16) (oi := { dst := some 157, op := Op.unOp UnOp.not 4 (Operand.tmp 156), type := 4, pos := "law.go:37", after := #[{ on := 15, ground := Ground.data }], guard := none }) (v := .bool !t2) rfl (by kernel_rfl) (by kernel_rfl) (by kernel_rfl) (fun _ _ _ h => h) (by decide) (Or.inl ⟨by rfl, fun W _ => by go_simp⟩) (fun _ => hH) ?_
                    simp only [Act.put, List.setIfInBounds_toArray, List.set_cons_zero, List.set_cons_succ]
                    refine Until.take (i := 17) (oi := { dst := some 158, op := Op.indexAddr 61 (Operand.tmp 146) (Operand.tmp 147), type := 0, pos := "law.go:37", after := #[{ on := 5, ground := Ground.data }, { on := 6, ground := Ground.data }, { on := 0, ground := Ground.phase }, { on := 1, ground := Ground.phase }, { on := 2, ground := Ground.phase }, { on := 3, ground := Ground.phase }, { on := 4, ground := Ground.phase }, { on := 5, ground := Ground.phase }, { on := 6, ground := Ground.phase }, { on := 7, ground := Ground.phase }, { on := 8, ground := Ground.phase }, { on := 9, ground := Ground.phase }, { on := 10, ground := Ground.phase }, { on := 11, ground := Ground.phase }, { on := 12, ground := Ground.phase }, { on := 13, ground := Ground.phase }, { on := 14, ground := Ground.phase }, { on := 15, ground := Ground.phase }, { on := 16, ground := Ground.phase }], guard := none }) (v := .pointer (some ⟨b2, off2 + q, none⟩)) rfl (by kernel_rfl) (by kernel_rfl) (by kernel_rfl) (fun _ _ _ h => h) (by decide) (Or.inl ⟨by rfl, fun W _ => by go_simp⟩) (fun _ => hH) ?_
                    simp only [Act.put, List.setIfInBounds_toArray, List.set_cons_zero, List.set_cons_succ]
                    refine Until.one (i := 18) (o := { dst := none, op := Op.store 4 (Operand.tmp 158) (Operand.tmp 157), type := 0, pos := "law.go:37", after := #[{ on := 17, ground := Ground.data }, { on := 16, ground := Ground.data }, { on := 0, ground := Ground.phase }, { on := 1, ground := Ground.phase }, { on := 2, ground := Ground.phase }, { on := 3, ground := Ground.phase }, { on := 4, ground := Ground.phase }, { on := 5, ground := Ground.phase }, { on := 6, ground := Ground.phase }, { on := 7, ground := Ground.phase }, { on := 8, ground := Ground.phase }, { on := 9, ground := Ground.phase }, { on := 10, ground := Ground.phase }, { on := 11, ground := Ground.phase }, { on := 12, ground := Ground.phase }, { on := 13, ground := Ground.phase }, { on := 14, ground := Ground.phase }, { on := 15, ground := Ground.phase }, { on := 16, ground := Ground.phase }], guard := none }) (by kernel_rfl) rfl (fun K hK => ?_)
                    go_simp
                    refine hK.out _ _ (fun h => absurd h (by decide +kernel)) ?_
                    clear hK K
                    try simp only [Act.put, List.setIfInBounds_toArray, List.set_cons_zero, List.set_cons_succ]
                    refine Until.done (by kernel_rfl) ?_ _
                    go_wp2_with fail
                    exact ⟨⟨q + 1, HQ.out, by go_num, HY⟩, by have := HQ.out; simp only [intOf]; omega⟩
                  · have j1 : ¬ (q : Int) < (sd.cases[m].opn.length : Int) := by omega
                    have k0 := hU.c0
                    have f0 := hU.f0
                    have HY := Lib.hid (HX.out.set (y := .int .i64 (-77)) k0 (.int _ _ _) hlb)
                    clear hC hU hlb hlq HX hq
                    go_wp2_with fail
                    exact ⟨⟨m + 1, HLT.out, by go_num, HY⟩, by have := HLT.out; simp only [intOf]; omega⟩
              · have i1 : ¬ (m : Int) < (sd.cases.length : Int) := by omega
                obtain ⟨a2, a3, a4, a5, a6, a7, a8, a9, c2, c3, c4, c5, c6, c7, c8, c9, hC⟩ := HX.out.cells
                have kz := hC.k5
                clear hC hlt hmu
                go_wp2_with fail
                try clear k2
                try clear kz
                try clear i1
                go_loopw [12] (fun i wr => i = .int .i64 0 ∧ Hid (SPI lo w.heap.size sd w wr)) (fun _ _ => 0)
                case atStart => exact ⟨rfl, HX.out⟩
                case round =>
                  clear HX
                  obtain ⟨rfl, HX⟩ := hrel
                  obtain ⟨a2, a3, a4, a5, a6, a7, a8, a9, c2, c3, c4, c5, c6, c7, c8, c9, hC⟩ := HX.out.cells
                  have kz := hC.k6
                  rw [n6.out] at kz
                  clear hC
                  go_wp2_with fail
                  try clear k2
                  try clear kz
                  try clear i1
                  go_loopw [13] (fun i wr => i = .int .i64 0 ∧ Hid (SPI lo w.heap.size sd w wr)) (fun _ _ => 0)
                  case atStart => exact ⟨rfl, HX.out⟩
                  case round =>
                    clear HX
                    obtain ⟨rfl, HX⟩ := hrel
                    obtain ⟨a2, a3, a4, a5, a6, a7, a8, a9, c2, c3, c4, c5, c6, c7, c8, c9, hC⟩ := HX.out.cells
                    have kz := hC.k7
                    rw [n7.out] at kz
                    clear hC
                    go_wp2_with fail
                    try clear k2
                    try clear kz
                    try clear i1
                    go_loopw [14] (fun i wr => i = .int .i64 0 ∧ Hid (SPI lo w.heap.size sd w wr)) (fun _ _ => 0)
                    case atStart => exact ⟨rfl, HX.out⟩
                    case round =>
                      clear HX
                      obtain ⟨rfl, HX⟩ := hrel
                      obtain ⟨a2, a3, a4, a5, a6, a7, a8, a9, c2, c3, c4, c5, c6, c7, c8, c9, hC⟩ := HX.out.cells
                      have kz := hC.k8
                      rw [n8.out] at kz
                      clear hC
                      go_wp2_with fail
                      try clear k2
                      try clear kz
                      try clear i1
                      go_loopw [15] (fun i wr => i = .int .i64 0 ∧ Hid (SPI lo w.heap.size sd w wr)) (fun _ _ => 0)
                      case atStart => exact ⟨rfl, HX.out⟩
                      case round =>
                        clear HX
                        obtain ⟨rfl, HX⟩ := hrel
                        obtain ⟨a2, a3, a4, a5, a6, a7, a8, a9, c2, c3, c4, c5, c6, c7, c8, c9, hC⟩ := HX.out.cells
                        have kz := hC.k9
                        rw [n9.out] at kz
                        clear hC
                        go_wp2_with fail
                        go_end0
                        exact ⟨rfl, HX.out.below⟩
end Go.Proofs.YtinijohmdljieaaGreatDoor
