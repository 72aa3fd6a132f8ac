/- docketlaw18: great answers some truth. -/
import Derived.Test.YtfbbkmdhnkmonaaGreatDoorS33
namespace Go.Proofs.YtfbbkmdhnkmonaaGreatDoor
open Go.RowKit

def GreatEnd (w : World) (e : Ending) (w' : World) : Prop := (∃ r, e = .returned (.bool r)) ∧ Below w.heap.size w w'
set_option maxHeartbeats 32000000 in
set_option maxRecDepth 100000 in
theorem great_walk (md : ModelD) (v : ModelV) (w : World) (hz : md.Sml) (hM : ModelM false (From 0) w md v) :
    Calls Tryz.prog 10 #[.agg (v.cs md).toArray] w (GreatEnd w) := by
  obtain ⟨w1, hw1⟩ : ∃ w1, w.alloc (.cells (v.cs md).toArray 31) = w1 := ⟨_, rfl⟩
  have hb1 : Below w.heap.size w w1 := hw1 ▸ (Below.refl _ _).alloc (Nat.le_refl _) _
  have hx1 : Arr w1 w.heap.size 31 (v.cs md) := hw1 ▸ Arr.new w (v.cs md) _
  have HM := Lib.hid (fun W (hb : Below w1.heap.size w1 W) => hM.grow (hb1.trans (hb.mono hb1.size)))
  have HX := Lib.hid hx1
  have HB1 := Lib.hid hb1
  have HW1 := Lib.hid hw1
  have HZ := Lib.hid hz
  have hal := hz.attrs
  have hel := hz.events
  have hsl := hz.stages
  have htl := hz.stones
  have hpl := hz.apart
  obtain ⟨va1, vc1, va2, vc2, va3, vc3, va4, vc4, va5, vc5⟩ := v
  obtain ⟨y0, y1, y2, y3, y4, y5⟩ := box6 hx1 (Below.refl _ _)
  clear hM hb1 hx1 hw1 hz
  go_enter Tryz.func10, Tryz.ntmps10
  go_upto_region 1 with fail
  rw [HW1.out]
  have hcase : 100 < md.attrs.length ∨ (¬ 100 < md.attrs.length ∧ 100 < md.events.length) ∨ (¬ 100 < md.attrs.length ∧ ¬ 100 < md.events.length ∧ 100 < md.stages.length) ∨ (¬ 100 < md.attrs.length ∧ ¬ 100 < md.events.length ∧ ¬ 100 < md.stages.length ∧ 100 < md.stones.length) ∨
      (¬ 100 < md.attrs.length ∧ ¬ 100 < md.events.length ∧ ¬ 100 < md.stages.length ∧ ¬ 100 < md.stones.length ∧ 100 < md.apart.length) ∨ (¬ 100 < md.attrs.length ∧ ¬ 100 < md.events.length ∧ ¬ 100 < md.stages.length ∧ ¬ 100 < md.stones.length ∧ ¬ 100 < md.apart.length) := by omega
  rcases hcase with h1 | ⟨h1, h2⟩ | ⟨h1, h2, h3⟩ | ⟨h1, h2, h3, h4⟩ | ⟨h1, h2, h3, h4, h5⟩ | ⟨h1, h2, h3, h4, h5⟩
  case inl =>
    have j1 : (100 : Int) < (md.attrs.length : Int) := by omega
    go_wp2_with fail
    go_ret
    exact ⟨⟨_, rfl⟩, HB1.out⟩
  case inr.inl =>
    have j1 : ¬ (100 : Int) < (md.attrs.length : Int) := by omega
    have j2 : (100 : Int) < (md.events.length : Int) := by omega
    go_wp2_with fail
    go_ret
    exact ⟨⟨_, rfl⟩, HB1.out⟩
  case inr.inr.inl =>
    have j1 : ¬ (100 : Int) < (md.attrs.length : Int) := by omega
    have j2 : ¬ (100 : Int) < (md.events.length : Int) := by omega
    have j3 : (100 : Int) < (md.stages.length : Int) := by omega
    go_wp2_with fail
    go_ret
    exact ⟨⟨_, rfl⟩, HB1.out⟩
  case inr.inr.inr.inl =>
    have j1 : ¬ (100 : Int) < (md.attrs.length : Int) := by omega
    have j2 : ¬ (100 : Int) < (md.events.length : Int) := by omega
    have j3 : ¬ (100 : Int) < (md.stages.length : Int) := by omega
    have j4 : (100 : Int) < (md.stones.length : Int) := by omega
    go_wp2_with fail
    go_ret
    exact ⟨⟨_, rfl⟩, HB1.out⟩
  case inr.inr.inr.inr.inl =>
    have j1 : ¬ (100 : Int) < (md.attrs.length : Int) := by omega
    have j2 : ¬ (100 : Int) < (md.events.length : Int) := by omega
    have j3 : ¬ (100 : Int) < (md.stages.length : Int) := by omega
    have j4 : ¬ (100 : Int) < (md.stones.length : Int) := by omega
    have j5 : (100 : Int) < (md.apart.length : Int) := by omega
    go_wp2_with fail
    go_ret
    exact ⟨⟨_, rfl⟩, HB1.out⟩
  case inr.inr.inr.inr.inr =>
    have j1 : ¬ (100 : Int) < (md.attrs.length : Int) := by omega
    have j2 : ¬ (100 : Int) < (md.events.length : Int) := by omega
    have j3 : ¬ (100 : Int) < (md.stages.length : Int) := by omega
    have j4 : ¬ (100 : Int) < (md.stones.length : Int) := by omega
    have j5 : ¬ (100 : Int) < (md.apart.length : Int) := by omega
    go_upto_block 0 with fail
    clear j1 j2 j3 j4 j5 h1 h2 h3 h4 h5
    go_cut [3] (fun t wx => (∃ k, t = .int .i64 k) ∧ Hid (Below w1.heap.size w1 wx))
    case first =>
      go_wp2_with fail
      go_loopw [3, 4] (fun s i wr => ∃ (m : Nat) (k : Int), m ≤ md.attrs.length ∧ i = .int .i64 (m : Int) ∧ s = .int .i64 k ∧ Hid (Below w1.heap.size w1 wr)) (fun _ i _ => md.attrs.length - (intOf i).toNat)
      case atStart => exact ⟨0, _, Nat.zero_le _, rfl, rfl, Below.refl _ _⟩
      case round =>
        obtain ⟨m, k, hml, rfl, rfl, HB⟩ := hrel
        clear y0 y1 y2 y3 y4 y5
        obtain ⟨y0, y1, y2, y3, y4, y5⟩ := box6 HX.out HB.out
        by_cases hlt : m < md.attrs.length
        · have i1 : (m : Int) < (md.attrs.length : Int) := by omega
          have i2 : (0 : Int) ≤ (m : Int) := by omega
          have HML := Lib.hid hlt
          obtain ⟨_, _, b, off, hvv, -, hC⟩ := flat_open (HM.out wr HB.out).attrs
          injection hvv with e1 e2 e3
          subst e1 e3
          obtain ⟨ha, -, hbl⟩ := hC.at0 (by omega)
          obtain rfl : va1 = some ⟨b, off, none⟩ := ha
          have c0 : wr.cell? ⟨b, off + m * 2, none⟩ = some (.string (md.attrs[m]'hlt).name) := hC.cell m hlt 0 _ rfl
          have k3 : IntKind.i64.wrap ((m : Int) + 1) = (m : Int) + 1 := wrap_i64 (by omega) (by omega)
          clear hC e2 hbl
          go_wp2_with fail
          refine ⟨⟨m + 1, _, by have := HML.out; omega, by go_num, rfl, HB.out⟩, by simp only [intOf]; have := HML.out; omega⟩
        · have i1 : ¬ (m : Int) < (md.attrs.length : Int) := by omega
          go_wp2_with fail
          go_meet
          exact ⟨⟨_, rfl⟩, HB.out⟩
    case rest =>
      obtain ⟨⟨k0, rfl⟩, HBc⟩ := hcut
      clear y0 y1 y2 y3 y4 y5
      obtain ⟨y0, y1, y2, y3, y4, y5⟩ := box6 HX.out HBc.out
      go_upto_block 2 with fail
      go_cut [3] (fun t wx => (∃ k, t = .int .i64 k) ∧ Hid (Below w1.heap.size w1 wx))
      case first =>
        go_wp2_with fail
        go_loopw [3, 5] (fun s i wr => ∃ (m : Nat) (k : Int), m ≤ md.events.length ∧ i = .int .i64 (m : Int) ∧ s = .int .i64 k ∧ Hid (Below w1.heap.size w1 wr)) (fun _ i _ => md.events.length - (intOf i).toNat)
        case atStart => exact ⟨0, _, Nat.zero_le _, rfl, rfl, HBc.out⟩
        case round =>
          obtain ⟨m, k, hml, rfl, rfl, HB⟩ := hrel
          clear y0 y1 y2 y3 y4 y5
          obtain ⟨y0, y1, y2, y3, y4, y5⟩ := box6 HX.out HB.out
          by_cases hlt : m < md.events.length
          · have i1 : (m : Int) < (md.events.length : Int) := by omega
            have i2 : (0 : Int) ≤ (m : Int) := by omega
            have HML := Lib.hid hlt
            obtain ⟨_, _, b, off, hvv, -, hC⟩ := flat_open (HM.out wr HB.out).events
            injection hvv with e1 e2 e3
            subst e1 e3
            obtain ⟨ha, -, hbl⟩ := hC.at0 (by omega)
            obtain rfl : va2 = some ⟨b, off, none⟩ := ha
            have c0 : wr.cell? ⟨b, off + m, none⟩ = some (.string (md.events[m]'hlt)) := by have := hC.cell m hlt 0 _ rfl; simpa using this
            have k3 : IntKind.i64.wrap ((m : Int) + 1) = (m : Int) + 1 := wrap_i64 (by omega) (by omega)
            clear hC e2 hbl
            go_wp2_with fail
            refine ⟨⟨m + 1, _, by have := HML.out; omega, by go_num, rfl, HB.out⟩, by simp only [intOf]; have := HML.out; omega⟩
          · have i1 : ¬ (m : Int) < (md.events.length : Int) := by omega
            go_wp2_with fail
            go_meet
            exact ⟨⟨_, rfl⟩, HB.out⟩
      case rest =>
        obtain ⟨⟨k1, rfl⟩, HBc⟩ := hcut
        clear y0 y1 y2 y3 y4 y5
        obtain ⟨y0, y1, y2, y3, y4, y5⟩ := box6 HX.out HBc.out
        go_upto_block 4 with fail
        go_cut [3] (fun t wx => (∃ k, t = .int .i64 k) ∧ Hid (Below w1.heap.size w1 wx))
        case first =>
          go_wp2_with fail
          go_loopw [3, 6] (fun s i wr => ∃ (m : Nat) (k : Int), m ≤ md.stages.length ∧ i = .int .i64 (m : Int) ∧ s = .int .i64 k ∧ Hid (Below w1.heap.size w1 wr)) (fun _ i _ => md.stages.length - (intOf i).toNat)
          case atStart => exact ⟨0, _, Nat.zero_le _, rfl, rfl, HBc.out⟩
          case round =>
            obtain ⟨m, k, hml, rfl, rfl, HB⟩ := hrel
            clear y0 y1 y2 y3 y4 y5
            obtain ⟨y0, y1, y2, y3, y4, y5⟩ := box6 HX.out HB.out
            by_cases hlt : m < md.stages.length
            · have i1 : (m : Int) < (md.stages.length : Int) := by omega
              have i2 : (0 : Int) ≤ (m : Int) := by omega
              have HML := Lib.hid hlt
              obtain ⟨b, off, ha, hbl, d1, e1, d2, e2, s1, s2, c0, c1, c2, c3, c4, c5, c6⟩ := stage_at (HM.out wr HB.out) hlt
              obtain rfl : va3 = some ⟨b, off, none⟩ := ha
              have hin := HZ.out.inS _ (List.getElem_mem hlt)
              obtain ⟨sd, hsd⟩ : ∃ sd, md.stages[m]'hlt = sd := ⟨_, rfl⟩
              rw [hsd] at c0 c1 c2 c3 c4 c5 c6 s1 s2 hin
              obtain ⟨sn, si, so, scl, sr, sa, se⟩ := sd
              simp only at c0 c1 c2 c3 c4 c5 c6 s1 s2 hin
              obtain ⟨ws, hws⟩ : ∃ ws, wr.alloc (.cells #[.string sn, .int .i64 si, .slice d1 so.length e1, .slice d2 scl.length e2, .string sr, .int .i64 sa, .string se] 38) = ws := ⟨_, rfl⟩
              have hbs : Below wr.heap.size wr ws := hws ▸ (Below.refl _ _).alloc (Nat.le_refl _) _
              have hxs : Arr ws wr.heap.size 38 [.string sn, .int .i64 si, .slice d1 so.length e1, .slice d2 scl.length e2, .string sr, .int .i64 sa, .string se] := hws ▸ Arr.new wr _ _
              have HS1 := Lib.hid (fun W (hb : Below ws.heap.size ws W) => size_walk so d1 e1 W hin.1 ((s1.grow hbs).grow hb))
              have HS2 := Lib.hid (fun W (hb : Below ws.heap.size ws W) => size_walk scl d2 e2 W hin.2 ((s2.grow hbs).grow hb))
              have HSW : Hid (∀ W, Below ws.heap.size ws W → Below ws.heap.size ws W ∧ W.cell? ⟨wr.heap.size, 0, none⟩ = some (.string sn) ∧ W.cell? ⟨wr.heap.size, 2, none⟩ = some (.slice d1 so.length e1) ∧ W.cell? ⟨wr.heap.size, 3, none⟩ = some (.slice d2 scl.length e2) ∧ W.cell? ⟨wr.heap.size, 4, none⟩ = some (.string sr) ∧ W.cell? ⟨wr.heap.size, 6, none⟩ = some (.string se)) := fun W hb =>
                ⟨hb, cellBelow2 hb (hxs.cell (j := 0) (by simp)), cellBelow2 hb (hxs.cell (j := 2) (by simp)), cellBelow2 hb (hxs.cell (j := 3) (by simp)), cellBelow2 hb (hxs.cell (j := 4) (by simp)), cellBelow2 hb (hxs.cell (j := 6) (by simp))⟩
              have HBS := Lib.hid (HB.out.trans (hbs.mono HB.out.size))
              have hq0 := (Below.refl ws.heap.size ws).drew
              have HWS := Lib.hid hws
              have k3 : IntKind.i64.wrap ((m : Int) + 1) = (m : Int) + 1 := wrap_i64 (by omega) (by omega)
              clear s1 s2 hin hsd hws hbs hxs hbl
              go_upto_region 16 with fail
              rw [HWS.out]
              clear c0 c1 c2 c3 c4 c5 c6 y0 y1 y2 y3 y4 y5
              go_region_held3 (fun W => Below ws.heap.size ws W ∧ W.cell? ⟨wr.heap.size, 0, none⟩ = some (.string sn) ∧ W.cell? ⟨wr.heap.size, 2, none⟩ = some (.slice d1 so.length e1) ∧ W.cell? ⟨wr.heap.size, 3, none⟩ = some (.slice d2 scl.length e2) ∧ W.cell? ⟨wr.heap.size, 4, none⟩ = some (.string sr) ∧ W.cell? ⟨wr.heap.size, 6, none⟩ = some (.string se))
                (first | exact HSW.out _ hq0 | exact HSW.out _ hq1 | exact HSW.out _ hq2)
                (first
                  | (go_at_call 22; refine (HS1.out _ hq0).mono ?_; rintro e W1 ⟨⟨k1, rfl⟩, hb⟩; have hq1 := hq0.trans (hb.mono hq0.size); clear hb HS1)
                  | (go_at_call 22; refine (HS2.out _ hq1).mono ?_; rintro e W2 ⟨⟨k2, rfl⟩, hb⟩; have hq2 := hq1.trans (hb.mono hq1.size); clear hb HS2))
              have HBE := Lib.hid (HBS.out.trans (hq2.mono HBS.out.size))
              clear hq0 hq1 hq2
              go_wp2_with fail
              refine ⟨⟨m + 1, _, by have := HML.out; omega, by go_num, rfl, HBE.out⟩, by simp only [intOf]; have := HML.out; omega⟩
            · have i1 : ¬ (m : Int) < (md.stages.length : Int) := by omega
              go_wp2_with fail
              go_meet
              exact ⟨⟨_, rfl⟩, HB.out⟩
        case rest =>
          obtain ⟨⟨k2, rfl⟩, HBc⟩ := hcut
          clear y0 y1 y2 y3 y4 y5
          obtain ⟨y0, y1, y2, y3, y4, y5⟩ := box6 HX.out HBc.out
          go_wp2_with fail
          go_loopw [3, 8] (fun s i wr => ∃ (m : Nat) (k : Int), m ≤ md.stones.length ∧ i = .int .i64 (m : Int) ∧ s = .int .i64 k ∧ Hid (Below w1.heap.size w1 wr)) (fun _ i _ => md.stones.length - (intOf i).toNat)
          case atStart => exact ⟨0, _, Nat.zero_le _, rfl, rfl, HBc.out⟩
          case round =>
            obtain ⟨m, k, hml, rfl, rfl, HB⟩ := hrel
            clear y0 y1 y2 y3 y4 y5
            obtain ⟨y0, y1, y2, y3, y4, y5⟩ := box6 HX.out HB.out
            by_cases hlt : m < md.stones.length
            · have i1 : (m : Int) < (md.stones.length : Int) := by omega
              have i2 : (0 : Int) ≤ (m : Int) := by omega
              have HML := Lib.hid hlt
              obtain ⟨b, off, ha, hbl, d1, e1, d2, e2, s1, s2, c0, c1, c2⟩ := stone_at (HM.out wr HB.out) hlt
              obtain rfl : va4 = some ⟨b, off, none⟩ := ha
              have hin := HZ.out.inT _ (List.getElem_mem hlt)
              obtain ⟨sd, hsd⟩ : ∃ sd, md.stones[m]'hlt = sd := ⟨_, rfl⟩
              rw [hsd] at c0 c1 c2 s1 s2 hin
              obtain ⟨sn, so, su⟩ := sd
              simp only at c0 c1 c2 s1 s2 hin
              have HS1 := Lib.hid (fun W (hb : Below wr.heap.size wr W) => size_walk so d1 e1 W hin.1 (s1.grow hb))
              have HS2 := Lib.hid (fun W (hb : Below wr.heap.size wr W) => size_walk su d2 e2 W hin.2 (s2.grow hb))
              have HY4 := Lib.hid y4
              have HC0 := Lib.hid c0
              have HC1 := Lib.hid c1
              have HC2 := Lib.hid c2
              have HSW : Hid (∀ W, Below wr.heap.size wr W → Below wr.heap.size wr W ∧ W.cell? ⟨w.heap.size, 4, none⟩ = some (.slice (some ⟨b, off, none⟩) md.stones.length vc4) ∧ W.cell? ⟨b, off + m * 3, none⟩ = some (.string sn) ∧ W.cell? ⟨b, off + m * 3 + 1, none⟩ = some (.slice d1 so.length e1) ∧ W.cell? ⟨b, off + m * 3 + 2, none⟩ = some (.slice d2 su.length e2)) := fun W hb =>
                ⟨hb, cellBelow2 hb HY4.out, cellBelow2 hb HC0.out, cellBelow2 hb HC1.out, cellBelow2 hb HC2.out⟩
              have hq0 := (Below.refl wr.heap.size wr).drew
              have k3 : IntKind.i64.wrap ((m : Int) + 1) = (m : Int) + 1 := wrap_i64 (by omega) (by omega)
              clear s1 s2 hin hsd hbl HY4 HC0 HC1 HC2
              go_upto_region 20 with fail
              clear c0 c1 c2 y0 y1 y2 y3 y4 y5
              go_region_held3 (fun W => Below wr.heap.size wr W ∧ W.cell? ⟨w.heap.size, 4, none⟩ = some (.slice (some ⟨b, off, none⟩) md.stones.length vc4) ∧ W.cell? ⟨b, off + m * 3, none⟩ = some (.string sn) ∧ W.cell? ⟨b, off + m * 3 + 1, none⟩ = some (.slice d1 so.length e1) ∧ W.cell? ⟨b, off + m * 3 + 2, none⟩ = some (.slice d2 su.length e2))
                (first | exact HSW.out _ hq0 | exact HSW.out _ hq1 | exact HSW.out _ hq2)
                (first
                  | (go_at_call 22; refine (HS1.out _ hq0).mono ?_; rintro e W1 ⟨⟨k1, rfl⟩, hb⟩; have hq1 := hq0.trans (hb.mono hq0.size); clear hb HS1)
                  | (go_at_call 22; refine (HS2.out _ hq1).mono ?_; rintro e W2 ⟨⟨k2, rfl⟩, hb⟩; have hq2 := hq1.trans (hb.mono hq1.size); clear hb HS2))
              have HBE := Lib.hid (HB.out.trans (hq2.mono HB.out.size))
              clear hq0 hq1 hq2
              go_wp2_with fail
              refine ⟨⟨m + 1, _, by have := HML.out; omega, by go_num, rfl, HBE.out⟩, by simp only [intOf]; have := HML.out; omega⟩
            · have i1 : ¬ (m : Int) < (md.stones.length : Int) := by omega
              have HBB := Lib.hid (HB1.out.trans (HB.out.mono HB1.out.size))
              go_wp2_with fail
              go_ret
              exact ⟨⟨_, rfl⟩, HBB.out⟩
end Go.Proofs.YtfbbkmdhnkmonaaGreatDoor
