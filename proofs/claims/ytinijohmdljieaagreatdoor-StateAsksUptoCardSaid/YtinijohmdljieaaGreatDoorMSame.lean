/- docketref24.Models at models that are the same. -/
import Derived.Test.YtinijohmdljieaaGreatDoorH20
namespace Go.Proofs.YtinijohmdljieaaGreatDoor
open Go.RowKit

set_option maxHeartbeats 8000000 in
set_option maxRecDepth 100000 in
theorem modelSame (md : ModelD) (hok : md.Ok) (a1 : Option Addr) (c1 : Nat) (a2 : Option Addr) (c2 : Nat) (a3 : Option Addr) (c3 : Nat) (a4 : Option Addr) (c4 : Nat) (a5 : Option Addr) (c5 : Nat) (d1 : Option Addr) (e1 : Nat) (d2 : Option Addr) (e2 : Nat) (d3 : Option Addr) (e3 : Nat) (d4 : Option Addr) (e4 : Nat) (d5 : Option Addr) (e5 : Nat) (w : World) (hM : ModelM false (From 0) w md ⟨a1, c1, a2, c2, a3, c3, a4, c4, a5, c5⟩) (hN : ModelM false (From 0) w md ⟨d1, e1, d2, e2, d3, e3, d4, e4, d5, e5⟩) : Calls Tryz.prog 17 #[.agg (modelC md.name (.slice a1 md.attrs.length c1) (.slice a2 md.events.length c2) (.slice a3 md.stages.length c3) (.slice a4 md.stones.length c4) (.slice a5 md.apart.length c5)).toArray, .agg (modelC md.name (.slice d1 md.attrs.length e1) (.slice d2 md.events.length e2) (.slice d3 md.stages.length e3) (.slice d4 md.stones.length e4) (.slice d5 md.apart.length e5)).toArray] w fun e w' => e = .returned (.bool true) ∧ Below w.heap.size w w' := by
  have m1 : Mem false (From 0) w (flatL 2 AttrD.cs md.attrs) (.slice a1 md.attrs.length c1) := hM.attrs
  have n1 : Mem false (From 0) w (flatL 2 AttrD.cs md.attrs) (.slice d1 md.attrs.length e1) := hN.attrs
  have m2 : Mem false (From 0) w (strD md.events) (.slice a2 md.events.length c2) := hM.events
  have n2 : Mem false (From 0) w (strD md.events) (.slice d2 md.events.length e2) := hN.events
  have m3 : Mem false (From 0) w (.list 7 (md.stages.map StageD.ds)) (.slice a3 md.stages.length c3) := hM.stages
  have n3 : Mem false (From 0) w (.list 7 (md.stages.map StageD.ds)) (.slice d3 md.stages.length e3) := hN.stages
  have m4 : Mem false (From 0) w (.list 3 (md.stones.map StoneD.ds)) (.slice a4 md.stones.length c4) := hM.stones
  have n4 : Mem false (From 0) w (.list 3 (md.stones.map StoneD.ds)) (.slice d4 md.stones.length e4) := hN.stones
  have m5 : Mem false (From 0) w (flatL 2 pairC md.apart) (.slice a5 md.apart.length c5) := hM.apart
  have n5 : Mem false (From 0) w (flatL 2 pairC md.apart) (.slice d5 md.apart.length e5) := hN.apart
  obtain ⟨_, _, b1, o1, p1, -, h1⟩ := flat_open m1
  obtain ⟨_, _, b2, o2, p2, -, h2⟩ := flat_open n1
  obtain ⟨_, _, b3, o3, p3, -, h3⟩ := rec_open m3
  obtain ⟨_, _, b4, o4, p4, -, h4⟩ := rec_open n3
  obtain ⟨_, _, b5, o5, p5, -, h5⟩ := rec_open m4
  obtain ⟨_, _, b6, o6, p6, -, h6⟩ := rec_open n4
  obtain ⟨_, _, b7, o7, p7, -, h7⟩ := flat_open m5
  obtain ⟨_, _, b8, o8, p8, -, h8⟩ := flat_open n5
  injection p1 with g1 g1' g1''
  injection p2 with g2 g2' g2''
  injection p3 with g3 g3' g3''
  injection p4 with g4 g4' g4''
  injection p5 with g5 g5' g5''
  injection p6 with g6 g6' g6''
  injection p7 with g7 g7' g7''
  injection p8 with g8 g8' g8''
  subst g1 g1'' g2 g2'' g3 g3'' g4 g4'' g5 g5'' g6 g6'' g7 g7'' g8 g8''
  have H1 := Lib.hid h1
  have H2 := Lib.hid h2
  have H3 := Lib.hid h3
  have H4 := Lib.hid h4
  have H5 := Lib.hid h5
  have H6 := Lib.hid h6
  have H7 := Lib.hid h7
  have H8 := Lib.hid h8
  have HO := Lib.hid hok
  have HE := Lib.hid (fun W (hb : Below w.heap.size w W) => textsM md.events a2 d2 c2 e2 W hok.el (m2.grow hb) (n2.grow hb))
  have HB0 := Lib.hid (B2.start w 53 6 #[.string md.name, .slice a1 md.attrs.length c1, .slice a2 md.events.length c2, .slice a3 md.stages.length c3, .slice a4 md.stones.length c4, .slice a5 md.apart.length c5] #[.string md.name, .slice d1 md.attrs.length e1, .slice d2 md.events.length e2, .slice d3 md.stages.length e3, .slice d4 md.stones.length e4, .slice d5 md.apart.length e5] rfl rfl)
  clear hM hN m1 n1 m2 n2 m3 n3 m4 n4 m5 n5 h1 h2 h3 h4 h5 h6 h7 h8 hok g1' g2' g3' g4' g5' g6' g7' g8'
  go_enter Tryz.func17, Tryz.ntmps17
  go_upto_region 1 with fail
  revert HB0
  generalize ((w.alloc (.cells #[.string md.name, .slice a1 md.attrs.length c1, .slice a2 md.events.length c2, .slice a3 md.stages.length c3, .slice a4 md.stones.length c4, .slice a5 md.apart.length c5] 53)).alloc (.cells #[.string md.name, .slice d1 md.attrs.length e1, .slice d2 md.events.length e2, .slice d3 md.stages.length e3, .slice d4 md.stones.length e4, .slice d5 md.apart.length e5] 53)) = W0
  intro HB0
  have k0 := HB0.out.cp 0 _ rfl
  have k1 := HB0.out.cp 1 _ rfl
  have k2 := HB0.out.cp 2 _ rfl
  have q0 := HB0.out.cq 0 _ rfl
  have q1 := HB0.out.cq 1 _ rfl
  have q2 := HB0.out.cq 2 _ rfl
  go_wp2_with fail
  refine (HE.out _ HB0.out.below).mono ?_
  rintro e w1 ⟨rfl, hb1⟩
  have HS := Lib.hid (HB0.out.call hb1)
  clear k0 k1 k2 q0 q1 q2 hb1 HE HB0
  have k1 := HS.out.cp 1 _ rfl
  have k3 := HS.out.cp 3 _ rfl
  have k4 := HS.out.cp 4 _ rfl
  have k5 := HS.out.cp 5 _ rfl
  have q1 := HS.out.cq 1 _ rfl
  have q3 := HS.out.cq 3 _ rfl
  have q4 := HS.out.cq 4 _ rfl
  have q5 := HS.out.cq 5 _ rfl
  go_wp2_with fail
  clear k3 k4 k5 q3 q4 q5
  go_loopw [5] (fun j wx => ∃ p n : Nat, p ≤ md.attrs.length ∧ j = .int .i64 p ∧ wx = w1.drewN n) (fun j _ => md.attrs.length - (intOf j).toNat)
  case atStart => exact ⟨0, 0, Nat.zero_le _, rfl, rfl⟩
  case round =>
    obtain ⟨p, n, hpl, rfl, hwx⟩ := hrel
    subst hwx
    by_cases hlt : p < md.attrs.length
    · obtain ⟨rfl, -, -⟩ := H1.out.at0 (by omega)
      obtain ⟨rfl, -, -⟩ := H2.out.at0 (by omega)
      have x0 := cellBelow2 HS.out.below (H1.out.cell p hlt 0 _ rfl)
      have x1 := cellBelow2 HS.out.below (H1.out.cell p hlt 1 _ rfl)
      have y0 := cellBelow2 HS.out.below (H2.out.cell p hlt 0 _ rfl)
      have y1 := cellBelow2 HS.out.below (H2.out.cell p hlt 1 _ rfl)
      simp only [Nat.add_zero] at x0 y0
      obtain ⟨⟨s, t⟩, hs⟩ : ∃ s, md.attrs[p] = s := ⟨_, rfl⟩
      rw [hs] at x0 x1 y0 y1
      have i1 : (0 : Int) ≤ (p : Int) := by omega
      have i2 : (p : Int) < (md.attrs.length : Int) := by omega
      have wr1 : IntKind.i64.wrap ((p : Int) + 1) = (p : Int) + 1 := wrap_i64 (by omega) (by have := HO.out.al; omega)
      clear hs
      go_wp2_with fail
      go_quiet (fail)
      go_wp2_with fail
      go_roundw
      case rel => exact ⟨p + 1, _, by omega, by go_num, rfl⟩
      case measure => simp [intOf]; omega
    · have i1 : ¬ (p : Int) < (md.attrs.length : Int) := by omega
      have HS2 := Lib.hid (HS.out.drewN n)
      clear HS H1 H2
      have HS := HS2
      clear HS2
      have k5 := HS.out.cp 5 _ rfl
      have q5 := HS.out.cq 5 _ rfl
      go_wp2_with fail
      clear i1 hpl hlt k1 q1
      generalize w1.drewN n = w9 at HS k5 q5 ⊢
      go_loopw [6] (fun j wx => ∃ p n : Nat, p ≤ md.apart.length ∧ j = .int .i64 p ∧ wx = w9.drewN n) (fun j _ => md.apart.length - (intOf j).toNat)
      case atStart => exact ⟨0, 0, Nat.zero_le _, rfl, rfl⟩
      case round =>
        obtain ⟨p, n, hpl, rfl, hwx⟩ := hrel
        subst hwx
        by_cases hlt : p < md.apart.length
        · obtain ⟨rfl, -, -⟩ := H7.out.at0 (by omega)
          obtain ⟨rfl, -, -⟩ := H8.out.at0 (by omega)
          have x0 := cellBelow2 HS.out.below (H7.out.cell p hlt 0 _ rfl)
          have x1 := cellBelow2 HS.out.below (H7.out.cell p hlt 1 _ rfl)
          have y0 := cellBelow2 HS.out.below (H8.out.cell p hlt 0 _ rfl)
          have y1 := cellBelow2 HS.out.below (H8.out.cell p hlt 1 _ rfl)
          simp only [Nat.add_zero] at x0 y0
          obtain ⟨⟨s, t⟩, hs⟩ : ∃ s, md.apart[p] = s := ⟨_, rfl⟩
          rw [hs] at x0 x1 y0 y1
          have i1 : (0 : Int) ≤ (p : Int) := by omega
          have i2 : (p : Int) < (md.apart.length : Int) := by omega
          have wr1 : IntKind.i64.wrap ((p : Int) + 1) = (p : Int) + 1 := wrap_i64 (by omega) (by have := HO.out.pl; omega)
          clear hs
          have HEG := pair_guard
          have HNE := fun w => pair_ne s t w
          have HQE := fun w => pair_eq s t w
          go_wp2_with fail
          go_quiet (fail)
          go_wp2_with fail
          go_roundw
          case rel => exact ⟨p + 1, _, by omega, by go_num, rfl⟩
          case measure => simp [intOf]; omega
        · have i1 : ¬ (p : Int) < (md.apart.length : Int) := by omega
          have HS2 := Lib.hid (HS.out.drewN n)
          clear HS H7 H8
          have HS := HS2
          clear HS2
          have kk := HS.out.cp 3 _ rfl
          have qq := HS.out.cq 3 _ rfl
          go_wp2_with fail
          go_loopw [7] (fun j wx => ∃ m : Nat, m ≤ md.stages.length ∧ j = .int .i64 m ∧ Hid (B2 53 6 w wx (modelC md.name (.slice a1 md.attrs.length c1) (.slice a2 md.events.length c2) (.slice a3 md.stages.length c3) (.slice a4 md.stones.length c4) (.slice a5 md.apart.length c5)) (modelC md.name (.slice d1 md.attrs.length e1) (.slice d2 md.events.length e2) (.slice d3 md.stages.length e3) (.slice d4 md.stones.length e4) (.slice d5 md.apart.length e5)))) (fun j _ => md.stages.length - (intOf j).toNat)
          case atStart => exact ⟨0, Nat.zero_le _, rfl, HS.out⟩
          case round =>
            clear HS
            obtain ⟨m, hml, rfl, HS⟩ := hrel
            have k3 := HS.out.cp 3 _ rfl
            have q3 := HS.out.cq 3 _ rfl
            by_cases hlt : m < md.stages.length
            · obtain ⟨rfl, -, -⟩ := H3.out.at0 (by omega)
              obtain ⟨rfl, -, -⟩ := H4.out.at0 (by omega)
              obtain ⟨us0, hr, hcell⟩ := H3.out.row m hlt
              obtain ⟨us1, hr2, hcell2⟩ := H4.out.row m hlt
              have hso := HO.out.so _ (List.getElem_mem hlt)
              obtain ⟨st, hst⟩ : ∃ st, md.stages[m] = st := ⟨_, rfl⟩
              rw [hst] at hr hr2 hso
              obtain ⟨sa, sc, sa2, sc2, rfl, hop, hcl⟩ := StageD.cells hr
              obtain ⟨ta, tc, ta2, tc2, rfl, hop2, hcl2⟩ := StageD.cells hr2
              have x0 := cellBelow2 HS.out.below (hcell 0 _ rfl)
              have x1 := cellBelow2 HS.out.below (hcell 1 _ rfl)
              have x2 := cellBelow2 HS.out.below (hcell 2 _ rfl)
              have x3 := cellBelow2 HS.out.below (hcell 3 _ rfl)
              have x4 := cellBelow2 HS.out.below (hcell 4 _ rfl)
              have x5 := cellBelow2 HS.out.below (hcell 5 _ rfl)
              have x6 := cellBelow2 HS.out.below (hcell 6 _ rfl)
              have y0 := cellBelow2 HS.out.below (hcell2 0 _ rfl)
              have y1 := cellBelow2 HS.out.below (hcell2 1 _ rfl)
              have y2 := cellBelow2 HS.out.below (hcell2 2 _ rfl)
              have y3 := cellBelow2 HS.out.below (hcell2 3 _ rfl)
              have y4 := cellBelow2 HS.out.below (hcell2 4 _ rfl)
              have y5 := cellBelow2 HS.out.below (hcell2 5 _ rfl)
              have y6 := cellBelow2 HS.out.below (hcell2 6 _ rfl)
              simp only [Nat.add_zero] at x0 y0
              have HC1 := Lib.hid (fun W (hb : Below w.heap.size w W) => sentriesSame st.opens sa ta sc tc W hso.1 (hop.grow hb) (hop2.grow hb))
              have HC2 := Lib.hid (fun W (hb : Below w.heap.size w W) => sentriesSame st.closes sa2 ta2 sc2 tc2 W hso.2 (hcl.grow hb) (hcl2.grow hb))
              have HBx := Lib.hid (B2.start wr 113 7 #[.string st.name, .int .i64 st.inn, .slice sa st.opens.length sc, .slice sa2 st.closes.length sc2, .string st.role, .int .i64 st.aft, .string st.event] #[.string st.name, .int .i64 st.inn, .slice ta st.opens.length tc, .slice ta2 st.closes.length tc2, .string st.role, .int .i64 st.aft, .string st.event] rfl rfl)
              have HY1 : Hid (Below wr.heap.size wr (wr.alloc (.cells #[.string st.name, .int .i64 st.inn, .slice sa st.opens.length sc, .slice sa2 st.closes.length sc2, .string st.role, .int .i64 st.aft, .string st.event] 113))) := (Below.refl _ _).alloc (Nat.le_refl _) _
              have i1 : (0 : Int) ≤ (m : Int) := by omega
              have i2 : (m : Int) < (md.stages.length : Int) := by omega
              have z0 := cellBelow2 HY1.out y0
              have z1 := cellBelow2 HY1.out y1
              have z2 := cellBelow2 HY1.out y2
              have z3 := cellBelow2 HY1.out y3
              have z4 := cellBelow2 HY1.out y4
              have z5 := cellBelow2 HY1.out y5
              have z6 := cellBelow2 HY1.out y6
              have q4 := cellBelow2 HY1.out q3
              clear hr hr2 hcell hcell2 hso hop hop2 hcl hcl2 hst HY1 H3 H4
              go_upto_region 18 with fail
              revert HBx
              generalize (wr.alloc (.cells #[.string st.name, .int .i64 st.inn, .slice sa st.opens.length sc, .slice sa2 st.closes.length sc2, .string st.role, .int .i64 st.aft, .string st.event] 113)).alloc (.cells #[.string st.name, .int .i64 st.inn, .slice ta st.opens.length tc, .slice ta2 st.closes.length tc2, .string st.role, .int .i64 st.aft, .string st.event] 113) = W1
              intro HBx
              clear k3 q3 q4 x0 y0 z0 x1 y1 z1 x2 y2 z2 x3 y3 z3 x4 y4 z4 x5 y5 z5 x6 y6 z6
              have x0 := HBx.out.cp 0 _ rfl
              have x1 := HBx.out.cp 1 _ rfl
              have x2 := HBx.out.cp 2 _ rfl
              have x4 := HBx.out.cp 4 _ rfl
              have x5 := HBx.out.cp 5 _ rfl
              have x6 := HBx.out.cp 6 _ rfl
              have y0 := HBx.out.cq 0 _ rfl
              have y1 := HBx.out.cq 1 _ rfl
              have y2 := HBx.out.cq 2 _ rfl
              have y4 := HBx.out.cq 4 _ rfl
              have y5 := HBx.out.cq 5 _ rfl
              have y6 := HBx.out.cq 6 _ rfl
              have HSa := Lib.hid (HS.out.call HBx.out.below)
              go_wp2_with fail
              refine (HC1.out _ HSa.out.below).mono ?_
              rintro e w3 ⟨rfl, hb3⟩
              have HBy := Lib.hid (HBx.out.call hb3)
              have HSb := Lib.hid (HSa.out.call hb3)
              clear hb3 HC1 HBx HSa HS x0 y0 x1 y1 x2 y2 x4 y4 x5 y5 x6 y6
              have x3 := HBy.out.cp 3 _ rfl
              have y3 := HBy.out.cq 3 _ rfl
              go_wp2_with fail
              refine (HC2.out _ HSb.out.below).mono ?_
              rintro e w4 ⟨rfl, hb4⟩
              have HSc := Lib.hid (HSb.out.call hb4)
              clear hb4 HC2 HBy HSb x3 y3
              have wr1 : IntKind.i64.wrap ((m : Int) + 1) = (m : Int) + 1 := wrap_i64 (by omega) (by have := HO.out.sl; omega)
              go_wp2_with fail
              go_roundw
              case rel => exact ⟨m + 1, by omega, by go_num, HSc⟩
              case measure => simp [intOf]; omega
            · have i1 : ¬ (m : Int) < (md.stages.length : Int) := by omega
              clear H3 H4
              have kk := HS.out.cp 4 _ rfl
              have qq := HS.out.cq 4 _ rfl
              go_wp2_with fail
              go_loopw [10] (fun j wx => ∃ m : Nat, m ≤ md.stones.length ∧ j = .int .i64 m ∧ Hid (B2 53 6 w wx (modelC md.name (.slice a1 md.attrs.length c1) (.slice a2 md.events.length c2) (.slice a3 md.stages.length c3) (.slice a4 md.stones.length c4) (.slice a5 md.apart.length c5)) (modelC md.name (.slice d1 md.attrs.length e1) (.slice d2 md.events.length e2) (.slice d3 md.stages.length e3) (.slice d4 md.stones.length e4) (.slice d5 md.apart.length e5)))) (fun j _ => md.stones.length - (intOf j).toNat)
              case atStart => exact ⟨0, Nat.zero_le _, rfl, HS.out⟩
              case round =>
                clear HS
                obtain ⟨m, hml, rfl, HS⟩ := hrel
                have k3 := HS.out.cp 4 _ rfl
                have q3 := HS.out.cq 4 _ rfl
                by_cases hlt : m < md.stones.length
                · obtain ⟨rfl, -, -⟩ := H5.out.at0 (by omega)
                  obtain ⟨rfl, -, -⟩ := H6.out.at0 (by omega)
                  obtain ⟨us0, hr, hcell⟩ := H5.out.row m hlt
                  obtain ⟨us1, hr2, hcell2⟩ := H6.out.row m hlt
                  have hso := HO.out.st _ (List.getElem_mem hlt)
                  obtain ⟨st, hst⟩ : ∃ st, md.stones[m] = st := ⟨_, rfl⟩
                  rw [hst] at hr hr2 hso
                  obtain ⟨sa, sc, sa2, sc2, rfl, hop, hcl⟩ := StoneD.cells hr
                  obtain ⟨ta, tc, ta2, tc2, rfl, hop2, hcl2⟩ := StoneD.cells hr2
                  have x0 := cellBelow2 HS.out.below (hcell 0 _ rfl)
                  have x1 := cellBelow2 HS.out.below (hcell 1 _ rfl)
                  have x2 := cellBelow2 HS.out.below (hcell 2 _ rfl)
                  have y0 := cellBelow2 HS.out.below (hcell2 0 _ rfl)
                  have y1 := cellBelow2 HS.out.below (hcell2 1 _ rfl)
                  have y2 := cellBelow2 HS.out.below (hcell2 2 _ rfl)
                  simp only [Nat.add_zero] at x0 y0
                  have HC1 := Lib.hid (fun W (hb : Below w.heap.size w W) => sentriesSame st.done sa ta sc tc W hso.1 (hop.grow hb) (hop2.grow hb))
                  have HC2 := Lib.hid (fun W (hb : Below w.heap.size w W) => sentriesSame st.undo sa2 ta2 sc2 tc2 W hso.2 (hcl.grow hb) (hcl2.grow hb))
                  have HBx := Lib.hid (B2.start wr 116 3 #[.string st.name, .slice sa st.done.length sc, .slice sa2 st.undo.length sc2] #[.string st.name, .slice ta st.done.length tc, .slice ta2 st.undo.length tc2] rfl rfl)
                  have HY1 : Hid (Below wr.heap.size wr (wr.alloc (.cells #[.string st.name, .slice sa st.done.length sc, .slice sa2 st.undo.length sc2] 116))) := (Below.refl _ _).alloc (Nat.le_refl _) _
                  have i1 : (0 : Int) ≤ (m : Int) := by omega
                  have i2 : (m : Int) < (md.stones.length : Int) := by omega
                  have z0 := cellBelow2 HY1.out y0
                  have z1 := cellBelow2 HY1.out y1
                  have z2 := cellBelow2 HY1.out y2
                  have q4 := cellBelow2 HY1.out q3
                  clear hr hr2 hcell hcell2 hso hop hop2 hcl hcl2 hst HY1 H5 H6
                  go_upto_region 25 with fail
                  revert HBx
                  generalize (wr.alloc (.cells #[.string st.name, .slice sa st.done.length sc, .slice sa2 st.undo.length sc2] 116)).alloc (.cells #[.string st.name, .slice ta st.done.length tc, .slice ta2 st.undo.length tc2] 116) = W1
                  intro HBx
                  clear k3 q3 q4 x0 y0 z0 x1 y1 z1 x2 y2 z2
                  have x0 := HBx.out.cp 0 _ rfl
                  have x1 := HBx.out.cp 1 _ rfl
                  have y0 := HBx.out.cq 0 _ rfl
                  have y1 := HBx.out.cq 1 _ rfl
                  have HSa := Lib.hid (HS.out.call HBx.out.below)
                  go_wp2_with fail
                  refine (HC1.out _ HSa.out.below).mono ?_
                  rintro e w3 ⟨rfl, hb3⟩
                  have HBy := Lib.hid (HBx.out.call hb3)
                  have HSb := Lib.hid (HSa.out.call hb3)
                  clear hb3 HC1 HBx HSa HS x0 y0 x1 y1
                  have x2 := HBy.out.cp 2 _ rfl
                  have y2 := HBy.out.cq 2 _ rfl
                  go_wp2_with fail
                  refine (HC2.out _ HSb.out.below).mono ?_
                  rintro e w4 ⟨rfl, hb4⟩
                  have HSc := Lib.hid (HSb.out.call hb4)
                  clear hb4 HC2 HBy HSb x2 y2
                  have wr1 : IntKind.i64.wrap ((m : Int) + 1) = (m : Int) + 1 := wrap_i64 (by omega) (by have := HO.out.tl; omega)
                  go_wp2_with fail
                  go_roundw
                  case rel => exact ⟨m + 1, by omega, by go_num, HSc⟩
                  case measure => simp [intOf]; omega
                · have i1 : ¬ (m : Int) < (md.stones.length : Int) := by omega
                  clear H5 H6
                  go_wp2_with fail
                  go_ret
                  exact ⟨rfl, HS.out.below⟩
end Go.Proofs.YtinijohmdljieaaGreatDoor
