/- docketref17: sum. Written by wip/rfgen.py. -/
import Derived.Test.YtkmgbkcpjlilpaaDoorRfRow
namespace Go.Proofs.YtkmgbkcpjlilpaaDoor
open Go.RowKit

set_option maxHeartbeats 16000000 in
set_option maxRecDepth 100000 in
theorem rf_sum {R : Nat} {s : ByteArray} {N : Nat} (hs : s.size ≤ 17000) (hsub : SubX R s N 73 .product) : SubX R s N 62 .sum := by
  intro x0 w hN hg h
  have hRw : R < w.heap.size := h.lt
  have HSUB := Lib.hid hsub
  have HN := Lib.hid hN
  have HG := Lib.hid hg
  have hra : RfIs R (w.alloc (.cells #[.int .u8 0, .int .i64 0, .string ⟨#[]⟩, .slice none 0 0] 24)) s x0 := h.below ((Below.refl _ w).alloc (Nat.le_refl _) _)
  have HRA := Lib.hid hra
  clear h hra hg hN hsub
  go_enter Tryd.func62, Tryd.ntmps62
  go_wp2_with fail
  refine (HSUB.out x0 _ HN.out HG.out HRA.out).mono ?_
  rintro e w2 ⟨hk2, x1, t1, cs, rfl, hx1, hr1, hp1⟩
  have HK2 := Lib.hid ((KeepR.of ((Below.refl w.heap.size w).alloc (Nat.le_refl _) (.cells #[.int .u8 0, .int .i64 0, .string ⟨#[]⟩, .slice none 0 0] 24))).trans hk2)
  have hgb1 : w.heap.size < w2.heap.size := by have := hk2.size; rw [size_alloc] at this; omega
  have HA2 := Lib.hid ((Arr.new w [.int .u8 0, .int .i64 0, .string ⟨#[]⟩, .slice none 0 0] 24).keepR hk2 (by omega))
  have HL2 := Lib.hid (loop_first (kinds := kSum) hp1)
  have hX1 : GX (fun k => k < w.heap.size + 1 ∨ k = w2.heap.size) w2 t1 cs := hx1.mono (fun k hk h => show k < (w.alloc _).heap.size by rw [size_alloc]; omega)
  obtain ⟨k1, n1, s1, a1, l1, c1, rfl⟩ := hx1.four
  have HRow : Hid (LoopW R s w w2.heap.size (w2.alloc (.cells #[.int .u8 k1, .int .i64 n1, .string s1, .slice a1 l1 c1] 24)) x1 t1 [.int .u8 k1, .int .i64 n1, .string s1, .slice a1 l1 c1]) :=
    ⟨hr1.below ((Below.refl _ _).alloc (Nat.le_refl _) _), HK2.out.alloc _, HA2.out.alloc _, Arr.new w2 [.int .u8 k1, .int .i64 n1, .string s1, .slice a1 l1 c1] 24, hX1.below ((Below.refl w2.heap.size w2).alloc (Nat.le_refl _) _)⟩
  clear hk2 hX1 hx1 hr1 hp1 HRA HK2 HA2
  go_wp2_with fail
  generalize w2.alloc (.cells #[.int .u8 k1, .int .i64 n1, .string s1, .slice a1 l1 c1] 24) = w3 at *
  generalize w2.heap.size = gb at *
  go_loopw [6, 7] (fun _ _ wr => ∃ x t cs, Hid (LoopW R s w gb wr x t cs) ∧ Hid (LoopX s .product kSum x0 x t)) (fun _ _ wr => remR R s wr)
  case atStart => exact ⟨x1, t1, _, HRow, HL2⟩
  case round =>
    clear HRow HL2
    obtain ⟨x, t, cs, HW, HL⟩ := hrel
    obtain ⟨q1, m1, z1, b1, l2, c2, rfl⟩ := HW.out.gx.four
    cases x with
    | error a =>
      have hbad := HW.out.rd
      obtain ⟨i', p', hbad⟩ := hbad
      obtain ⟨-, -, -, -, v4, -⟩ := rf_cells hbad
      clear hbad
      have y0 := HW.out.cell.cell (j := 0) (by simp)
      have y1 := HW.out.cell.cell (j := 1) (by simp)
      have y2 := HW.out.cell.cell (j := 2) (by simp)
      have y3 := HW.out.cell.cell (j := 3) (by simp)
      simp only [List.getElem_cons_zero, List.getElem_cons_succ] at y0 y1 y2 y3
      have o0 := HW.out.out.cell (j := 0) (by simp)
      have o1 := HW.out.out.cell (j := 1) (by simp)
      have o2 := HW.out.out.cell (j := 2) (by simp)
      have o3 := HW.out.out.cell (j := 3) (by simp)
      simp only [List.getElem_cons_zero, List.getElem_cons_succ] at o0 o1 o2 o3
      have f0 := HW.out.out.frozen 0
      have f1 := HW.out.out.frozen 1
      have f2 := HW.out.out.frozen 2
      have f3 := HW.out.out.frozen 3
      go_wp2_with fail
      obtain ⟨k1, k2, k3, k4⟩ := storeO (d0 := .int .u8 q1) (d1 := .int .i64 m1) (d2 := .string z1) (d3 := .slice b1 l2 c2) HW.out.keep HW.out.rd HW.out.out (GX.mono (fun k _ h => .inl h) HW.out.gx) hRw
      refine ret_guard (fn := Tryd.f62) rfl (g := w.heap.size) (cs := [.int .u8 q1, .int .i64 m1, .string z1, .slice b1 l2 c2]) rfl rfl rfl k3 ?_
      exact ⟨k1, _, _, _, rfl, k4, k2, loop_end HL.out (fun _ h => by cases h) (fun fu st0 => by rw [pars])⟩
    | ok st =>
      have hgood : Arr wr R 47 [.string s, .int .i64 (st.i : Int), .int .i64 (st.pos : Int), .string st.now, .bool false, .int .i64 0] := HW.out.rd
      obtain ⟨-, -, -, -, v4, -⟩ := rf_cells hgood
      have HIS := Lib.hid (rfIsX R s (.ok st) addS wr hs HL.out.gsx.le HW.out.rd)
      obtain ⟨b, hb⟩ : ∃ b, (isX s addS (.ok st)).1 = b := ⟨_, rfl⟩
      obtain ⟨x4, hx4⟩ : ∃ x4, (isX s addS (.ok st)).2 = x4 := ⟨_, rfl⟩
      have hyes : b = true → st.now = addS ∧ x4 = stepB s st.i := fun h => by obtain ⟨st', h1, h2, h3⟩ := isX_yes (hb.trans h); cases h1; exact ⟨h2, hx4 ▸ h3⟩
      have hno : b = false → x4 = .ok st ∧ ¬ st.now = addS := fun h => ⟨hx4 ▸ (isX_no (hb.trans h)).1, (isX_no (hb.trans h)).2 st rfl⟩
      rw [hb, hx4] at HIS
      clear hb hx4 hgood
      go_wp2_with fail
      clear v4
      refine HIS.out.mono ?_
      rintro e w4 ⟨hk4, rfl, hr4⟩
      have HR4 := Lib.hid hr4
      have HC4 := Lib.hid (HW.out.cell.keepR hk4 (by omega))
      have HO4 := Lib.hid (HW.out.out.keepR hk4 (by omega))
      have HK4 := Lib.hid (HW.out.keep.trans hk4)
      have HX4 := Lib.hid (GX.keepR (X := fun k => k < w.heap.size + 1 ∨ k = gb) (Or.inl (by omega)) hk4 HW.out.gx)
      have hgs := HL.out.gsx st rfl
      have HGS := Lib.hid hgs
      have HG4 := Lib.hid (GSX.step hgs)
      have HN4 : Hid (∀ st', stepB s st.i = .ok st' → s.size - st'.pos < N) := fun st' hst => by
        have h1 := (step_gs hgs.le hst).2
        have h2 := hgs.pos
        cases x0 with
        | error b => cases (show Except.ok st = Except.error b from HL.out)
        | ok st0 =>
          obtain ⟨_, _, _, h3, _⟩ := HL.out
          have h4 := HN.out st0 rfl
          omega
      clear hk4 hr4 HIS hgs
      have y0 := HC4.out.cell (j := 0) (by simp)
      have y1 := HC4.out.cell (j := 1) (by simp)
      have y2 := HC4.out.cell (j := 2) (by simp)
      have y3 := HC4.out.cell (j := 3) (by simp)
      simp only [List.getElem_cons_zero, List.getElem_cons_succ] at y0 y1 y2 y3
      cases b with
      | true =>
        obtain ⟨hnow, rfl⟩ := hyes rfl
        have HNOW := Lib.hid hnow
        generalize hx4 : stepB s st.i = x4 at *
        have HX0 := Lib.hid hx4
        clear hx4 hyes hno hnow
        go_wp2_with fail
        refine wp_region_held_drew (S := fun _ => True) (by kernel_rfl) trivial (fun hH => ?_)
        have HR5 := Lib.hid (HR4.out.below (Below.refl w4.heap.size w4).drew)
        have HC5 := Lib.hid (Arr.drew HC4.out)
        have HO5 := Lib.hid (Arr.drew HO4.out)
        have HK5 := Lib.hid (KeepR.drew HK4.out)
        have HX5 := Lib.hid (HX4.out.below (Below.refl w4.heap.size w4).drew)
        clear HR4 HC4 HO4 HK4 HX4
        replace y0 := HC5.out.cell (j := 0) (by simp)
        replace y1 := HC5.out.cell (j := 1) (by simp)
        replace y2 := HC5.out.cell (j := 2) (by simp)
        replace y3 := HC5.out.cell (j := 3) (by simp)
        simp only [List.getElem_cons_zero, List.getElem_cons_succ] at y0 y1 y2 y3
        generalize w4.drew = Wd at *
        refine wpAnyH_take (i := 1) (oi := { dst := some 14, op := Op.move (Operand.tmp 0), type := 45, pos := "ref.go:187", after := #[], guard := none }) (v := .pointer (some ⟨R, 0, none⟩)) rfl (by kernel_rfl) (by kernel_rfl) (by kernel_rfl) (fun _ _ _ h => h) (Or.inl ⟨by rfl, fun W hS => by go_simp⟩) hH ?_
        simp only [Act.put, List.setIfInBounds_toArray, List.set_cons_zero, List.set_cons_succ]
        refine wpAnyH_ready (rs := [0, 2]) (by kernel_rfl) (by simp) ?_
        refine AllReadyH.cons (o := { dst := some 13, op := Op.load 24 (Operand.tmp 3), type := 24, pos := "ref.go:187", after := #[], guard := none }) rfl (fun K hK => ?_) (AllReadyH.cons (o := { dst := some 15, op := Op.call { callee := Callee.value (Operand.func 73), args := #[Operand.tmp 14], argTypes := #[45] }, type := 24, pos := "ref.go:187", after := #[{ on := 1, ground := Ground.data }], guard := none }) rfl (fun K hK => ?_) AllReadyH.nil)
        · go_simp
          refine hK.out _ _ trivial (fun hH => ?_)
          clear hK K
          try simp only [Act.put, List.setIfInBounds_toArray, List.set_cons_zero, List.set_cons_succ]
          refine wpAnyH_ready (rs := [2]) (by kernel_rfl) (by simp) ?_
          refine AllReadyH.cons (o := { dst := some 15, op := Op.call { callee := Callee.value (Operand.func 73), args := #[Operand.tmp 14], argTypes := #[45] }, type := 24, pos := "ref.go:187", after := #[{ on := 1, ground := Ground.data }], guard := none }) rfl (fun K hK => ?_) AllReadyH.nil
          go_simp
          refine (HSUB.out x4 Wd HN4.out HG4.out HR5.out).mono ?_
          rintro e w5 ⟨hk5, x5, t5, cs5, rfl, hx5, hr5, hp5⟩
          have hoz : w.heap.size < Wd.heap.size := HO5.out.lt
          have hcz : gb < Wd.heap.size := HC5.out.lt
          have HX6 := Lib.hid (GX.keepR (X := fun k => k < w.heap.size + 1 ∨ k = gb) (Or.inl (by omega)) hk5 HX5.out)
          have HX7 := Lib.hid (hx5.mono (Y := fun k => k < w.heap.size + 1 ∨ k = gb) (fun k _ h => show k < Wd.heap.size by omega))
          have HC6 := Lib.hid (HC5.out.keepR hk5 (by omega))
          have HO6 := Lib.hid (HO5.out.keepR hk5 (by omega))
          have HR6 := Lib.hid hr5
          have HP6 := Lib.hid hp5
          have HK6 := Lib.hid (HK5.out.trans hk5)
          obtain ⟨q5, m5, z5, b5, l5, c5, rfl⟩ := hx5.four
          replace y0 := HC6.out.cell (j := 0) (by simp)
          replace y1 := HC6.out.cell (j := 1) (by simp)
          replace y2 := HC6.out.cell (j := 2) (by simp)
          replace y3 := HC6.out.cell (j := 3) (by simp)
          simp only [List.getElem_cons_zero, List.getElem_cons_succ] at y0 y1 y2 y3
          clear hk5 hx5 hr5 hp5
          refine hK.out _ _ trivial (fun hH => ?_)
          clear hK K
          try simp only [Act.put, List.setIfInBounds_toArray, List.set_cons_zero, List.set_cons_succ]
          refine wpAnyH_ready (rs := [3]) (by kernel_rfl) (by simp) ?_
          refine AllReadyH.cons (o := { dst := some 16, op := Op.call { callee := Callee.value (Operand.func 32), args := #[Operand.const (Value.int IntKind.u8 13), Operand.tmp 13, Operand.tmp 15], argTypes := #[5, 24, 24] }, type := 24, pos := "ref.go:187", after := #[{ on := 0, ground := Ground.data }, { on := 2, ground := Ground.data }, { on := 2, ground := Ground.chain }], guard := none }) rfl (fun K hK => ?_) AllReadyH.nil
          go_simp
          refine (rfTwo_walk (fun k => k < w.heap.size + 1 ∨ k = gb) 13 t t5 [.int .u8 q1, .int .i64 m1, .string z1, .slice b1 l2 c2] [.int .u8 q5, .int .i64 m5, .string z5, .slice b5 l5 c5] w5 (fun k h => by have := HC6.out.lt; have := HO6.out.lt; omega) HX6.out HX7.out).mono ?_
          rintro e w6 ⟨hb6, cs6, rfl, hx6⟩
          have HC7 := Lib.hid (Arr.below HC6.out hb6 HC6.out.lt)
          have HO7 := Lib.hid (Arr.below HO6.out hb6 HO6.out.lt)
          have HR7 := Lib.hid (HR6.out.below hb6)
          have HK7 := Lib.hid (HK6.out.next hb6)
          have HX8 := Lib.hid hx6
          obtain ⟨q6, m6, z6, b6, l6, c6, rfl⟩ := hx6.four
          have f0 := HC7.out.frozen 0
          have f1 := HC7.out.frozen 1
          have f2 := HC7.out.frozen 2
          have f3 := HC7.out.frozen 3
          replace y0 := HC7.out.cell (j := 0) (by simp)
          replace y1 := HC7.out.cell (j := 1) (by simp)
          replace y2 := HC7.out.cell (j := 2) (by simp)
          replace y3 := HC7.out.cell (j := 3) (by simp)
          simp only [List.getElem_cons_zero, List.getElem_cons_succ] at y0 y1 y2 y3
          clear hb6 hx6
          refine hK.out _ _ trivial (fun hH => ?_)
          clear hK K
          try simp only [Act.put, List.setIfInBounds_toArray, List.set_cons_zero, List.set_cons_succ]
          refine wpAnyH_ready (rs := [4]) (by kernel_rfl) (by simp) ?_
          refine AllReadyH.cons (o := { dst := none, op := Op.store 24 (Operand.tmp 3) (Operand.tmp 16), type := 0, pos := "ref.go:187", after := #[{ on := 3, ground := Ground.data }, { on := 3, ground := Ground.chain }, { on := 0, ground := Ground.phase }, { on := 1, ground := Ground.phase }, { on := 2, ground := Ground.phase }, { on := 3, ground := Ground.phase }], guard := none }) rfl (fun K hK => ?_) AllReadyH.nil
          go_simp
          refine hK.out _ _ trivial (fun hH => ?_)
          clear hK K
          try simp only [Act.put, List.setIfInBounds_toArray, List.set_cons_zero, List.set_cons_succ]
          refine wpAnyH_done (by kernel_rfl) ?_ _
          have HROW := Lib.hid (LoopW.store (gb := gb) HK7.out HR7.out HO7.out HC7.out HX8.out hRw hgb1)
          have HLP := Lib.hid (loop_next (k := 13) HL.out (by rw [HNOW.out]; rfl) (HX0.out ▸ HP6.out))
          have HRM := Lib.hid (remR_lt (w := wr) HGS.out (by rw [HNOW.out]; decide) HW.out.rd (HX0.out ▸ HP6.out) HROW.out.rd)
          clear HR5 HC5 HO5 HK5 HX5 HX6 HX7 HC6 HO6 HR6 HP6 HK6 HC7 HO7 HR7 HK7 HX8 y0 y1 y2 y3 f0 f1 f2 f3
          go_wp2_with fail
          exact ⟨⟨_, _, _, HROW, HLP⟩, HRM.out⟩
        · go_simp
          refine (HSUB.out x4 Wd HN4.out HG4.out HR5.out).mono ?_
          rintro e w5 ⟨hk5, x5, t5, cs5, rfl, hx5, hr5, hp5⟩
          have hoz : w.heap.size < Wd.heap.size := HO5.out.lt
          have hcz : gb < Wd.heap.size := HC5.out.lt
          have HX6 := Lib.hid (GX.keepR (X := fun k => k < w.heap.size + 1 ∨ k = gb) (Or.inl (by omega)) hk5 HX5.out)
          have HX7 := Lib.hid (hx5.mono (Y := fun k => k < w.heap.size + 1 ∨ k = gb) (fun k _ h => show k < Wd.heap.size by omega))
          have HC6 := Lib.hid (HC5.out.keepR hk5 (by omega))
          have HO6 := Lib.hid (HO5.out.keepR hk5 (by omega))
          have HR6 := Lib.hid hr5
          have HP6 := Lib.hid hp5
          have HK6 := Lib.hid (HK5.out.trans hk5)
          obtain ⟨q5, m5, z5, b5, l5, c5, rfl⟩ := hx5.four
          replace y0 := HC6.out.cell (j := 0) (by simp)
          replace y1 := HC6.out.cell (j := 1) (by simp)
          replace y2 := HC6.out.cell (j := 2) (by simp)
          replace y3 := HC6.out.cell (j := 3) (by simp)
          simp only [List.getElem_cons_zero, List.getElem_cons_succ] at y0 y1 y2 y3
          clear hk5 hx5 hr5 hp5
          refine hK.out _ _ trivial (fun hH => ?_)
          clear hK K
          try simp only [Act.put, List.setIfInBounds_toArray, List.set_cons_zero, List.set_cons_succ]
          refine wpAnyH_ready (rs := [0]) (by kernel_rfl) (by simp) ?_
          refine AllReadyH.cons (o := { dst := some 13, op := Op.load 24 (Operand.tmp 3), type := 24, pos := "ref.go:187", after := #[], guard := none }) rfl (fun K hK => ?_) AllReadyH.nil
          go_simp
          refine hK.out _ _ trivial (fun hH => ?_)
          clear hK K
          try simp only [Act.put, List.setIfInBounds_toArray, List.set_cons_zero, List.set_cons_succ]
          refine wpAnyH_ready (rs := [3]) (by kernel_rfl) (by simp) ?_
          refine AllReadyH.cons (o := { dst := some 16, op := Op.call { callee := Callee.value (Operand.func 32), args := #[Operand.const (Value.int IntKind.u8 13), Operand.tmp 13, Operand.tmp 15], argTypes := #[5, 24, 24] }, type := 24, pos := "ref.go:187", after := #[{ on := 0, ground := Ground.data }, { on := 2, ground := Ground.data }, { on := 2, ground := Ground.chain }], guard := none }) rfl (fun K hK => ?_) AllReadyH.nil
          go_simp
          refine (rfTwo_walk (fun k => k < w.heap.size + 1 ∨ k = gb) 13 t t5 [.int .u8 q1, .int .i64 m1, .string z1, .slice b1 l2 c2] [.int .u8 q5, .int .i64 m5, .string z5, .slice b5 l5 c5] w5 (fun k h => by have := HC6.out.lt; have := HO6.out.lt; omega) HX6.out HX7.out).mono ?_
          rintro e w6 ⟨hb6, cs6, rfl, hx6⟩
          have HC7 := Lib.hid (Arr.below HC6.out hb6 HC6.out.lt)
          have HO7 := Lib.hid (Arr.below HO6.out hb6 HO6.out.lt)
          have HR7 := Lib.hid (HR6.out.below hb6)
          have HK7 := Lib.hid (HK6.out.next hb6)
          have HX8 := Lib.hid hx6
          obtain ⟨q6, m6, z6, b6, l6, c6, rfl⟩ := hx6.four
          have f0 := HC7.out.frozen 0
          have f1 := HC7.out.frozen 1
          have f2 := HC7.out.frozen 2
          have f3 := HC7.out.frozen 3
          replace y0 := HC7.out.cell (j := 0) (by simp)
          replace y1 := HC7.out.cell (j := 1) (by simp)
          replace y2 := HC7.out.cell (j := 2) (by simp)
          replace y3 := HC7.out.cell (j := 3) (by simp)
          simp only [List.getElem_cons_zero, List.getElem_cons_succ] at y0 y1 y2 y3
          clear hb6 hx6
          refine hK.out _ _ trivial (fun hH => ?_)
          clear hK K
          try simp only [Act.put, List.setIfInBounds_toArray, List.set_cons_zero, List.set_cons_succ]
          refine wpAnyH_ready (rs := [4]) (by kernel_rfl) (by simp) ?_
          refine AllReadyH.cons (o := { dst := none, op := Op.store 24 (Operand.tmp 3) (Operand.tmp 16), type := 0, pos := "ref.go:187", after := #[{ on := 3, ground := Ground.data }, { on := 3, ground := Ground.chain }, { on := 0, ground := Ground.phase }, { on := 1, ground := Ground.phase }, { on := 2, ground := Ground.phase }, { on := 3, ground := Ground.phase }], guard := none }) rfl (fun K hK => ?_) AllReadyH.nil
          go_simp
          refine hK.out _ _ trivial (fun hH => ?_)
          clear hK K
          try simp only [Act.put, List.setIfInBounds_toArray, List.set_cons_zero, List.set_cons_succ]
          refine wpAnyH_done (by kernel_rfl) ?_ _
          have HROW := Lib.hid (LoopW.store (gb := gb) HK7.out HR7.out HO7.out HC7.out HX8.out hRw hgb1)
          have HLP := Lib.hid (loop_next (k := 13) HL.out (by rw [HNOW.out]; rfl) (HX0.out ▸ HP6.out))
          have HRM := Lib.hid (remR_lt (w := wr) HGS.out (by rw [HNOW.out]; decide) HW.out.rd (HX0.out ▸ HP6.out) HROW.out.rd)
          clear HR5 HC5 HO5 HK5 HX5 HX6 HX7 HC6 HO6 HR6 HP6 HK6 HC7 HO7 HR7 HK7 HX8 y0 y1 y2 y3 f0 f1 f2 f3
          go_wp2_with fail
          exact ⟨⟨_, _, _, HROW, HLP⟩, HRM.out⟩
      | false =>
        obtain ⟨rfl, hn1⟩ := hno rfl
        have HN1 := Lib.hid hn1
        clear hyes hno hn1
        have HIS := Lib.hid (rfIsX R s (.ok st) subS w4 hs HL.out.gsx.le HR4.out)
        obtain ⟨b, hb⟩ : ∃ b, (isX s subS (.ok st)).1 = b := ⟨_, rfl⟩
        obtain ⟨x4, hx4⟩ : ∃ x4, (isX s subS (.ok st)).2 = x4 := ⟨_, rfl⟩
        have hyes : b = true → st.now = subS ∧ x4 = stepB s st.i := fun h => by obtain ⟨st', h1, h2, h3⟩ := isX_yes (hb.trans h); cases h1; exact ⟨h2, hx4 ▸ h3⟩
        have hno : b = false → x4 = .ok st ∧ ¬ st.now = subS := fun h => ⟨hx4 ▸ (isX_no (hb.trans h)).1, (isX_no (hb.trans h)).2 st rfl⟩
        rw [hb, hx4] at HIS
        clear hb hx4 y0 y1 y2 y3
        go_wp2_with fail
        refine HIS.out.mono ?_
        rintro e w8 ⟨hk8, rfl, hr8⟩
        replace HR4 := Lib.hid hr8
        replace HC4 := Lib.hid (HC4.out.keepR hk8 (by omega))
        replace HO4 := Lib.hid (HO4.out.keepR hk8 (by omega))
        replace HK4 := Lib.hid (HK4.out.trans hk8)
        replace HX4 := Lib.hid (GX.keepR (X := fun k => k < w.heap.size + 1 ∨ k = gb) (Or.inl (by omega)) hk8 HX4.out)
        clear hk8 hr8 HIS
        have y0 := HC4.out.cell (j := 0) (by simp)
        have y1 := HC4.out.cell (j := 1) (by simp)
        have y2 := HC4.out.cell (j := 2) (by simp)
        have y3 := HC4.out.cell (j := 3) (by simp)
        simp only [List.getElem_cons_zero, List.getElem_cons_succ] at y0 y1 y2 y3
        cases b with
        | true =>
          obtain ⟨hnow, rfl⟩ := hyes rfl
          have HNOW := Lib.hid hnow
          generalize hx4 : stepB s st.i = x4 at *
          have HX0 := Lib.hid hx4
          clear hx4 hyes hno hnow
          go_wp2_with fail
          refine wp_region_held_drew (S := fun _ => True) (by kernel_rfl) trivial (fun hH => ?_)
          have HR5 := Lib.hid (HR4.out.below (Below.refl w8.heap.size w8).drew)
          have HC5 := Lib.hid (Arr.drew HC4.out)
          have HO5 := Lib.hid (Arr.drew HO4.out)
          have HK5 := Lib.hid (KeepR.drew HK4.out)
          have HX5 := Lib.hid (HX4.out.below (Below.refl w8.heap.size w8).drew)
          clear HR4 HC4 HO4 HK4 HX4
          replace y0 := HC5.out.cell (j := 0) (by simp)
          replace y1 := HC5.out.cell (j := 1) (by simp)
          replace y2 := HC5.out.cell (j := 2) (by simp)
          replace y3 := HC5.out.cell (j := 3) (by simp)
          simp only [List.getElem_cons_zero, List.getElem_cons_succ] at y0 y1 y2 y3
          generalize w8.drew = Wd at *
          refine wpAnyH_take (i := 1) (oi := { dst := some 20, op := Op.move (Operand.tmp 0), type := 45, pos := "ref.go:189", after := #[], guard := none }) (v := .pointer (some ⟨R, 0, none⟩)) rfl (by kernel_rfl) (by kernel_rfl) (by kernel_rfl) (fun _ _ _ h => h) (Or.inl ⟨by rfl, fun W hS => by go_simp⟩) hH ?_
          simp only [Act.put, List.setIfInBounds_toArray, List.set_cons_zero, List.set_cons_succ]
          refine wpAnyH_ready (rs := [0, 2]) (by kernel_rfl) (by simp) ?_
          refine AllReadyH.cons (o := { dst := some 19, op := Op.load 24 (Operand.tmp 3), type := 24, pos := "ref.go:189", after := #[], guard := none }) rfl (fun K hK => ?_) (AllReadyH.cons (o := { dst := some 21, op := Op.call { callee := Callee.value (Operand.func 73), args := #[Operand.tmp 20], argTypes := #[45] }, type := 24, pos := "ref.go:189", after := #[{ on := 1, ground := Ground.data }], guard := none }) rfl (fun K hK => ?_) AllReadyH.nil)
          · go_simp
            refine hK.out _ _ trivial (fun hH => ?_)
            clear hK K
            try simp only [Act.put, List.setIfInBounds_toArray, List.set_cons_zero, List.set_cons_succ]
            refine wpAnyH_ready (rs := [2]) (by kernel_rfl) (by simp) ?_
            refine AllReadyH.cons (o := { dst := some 21, op := Op.call { callee := Callee.value (Operand.func 73), args := #[Operand.tmp 20], argTypes := #[45] }, type := 24, pos := "ref.go:189", after := #[{ on := 1, ground := Ground.data }], guard := none }) rfl (fun K hK => ?_) AllReadyH.nil
            go_simp
            refine (HSUB.out x4 Wd HN4.out HG4.out HR5.out).mono ?_
            rintro e w5 ⟨hk5, x5, t5, cs5, rfl, hx5, hr5, hp5⟩
            have hoz : w.heap.size < Wd.heap.size := HO5.out.lt
            have hcz : gb < Wd.heap.size := HC5.out.lt
            have HX6 := Lib.hid (GX.keepR (X := fun k => k < w.heap.size + 1 ∨ k = gb) (Or.inl (by omega)) hk5 HX5.out)
            have HX7 := Lib.hid (hx5.mono (Y := fun k => k < w.heap.size + 1 ∨ k = gb) (fun k _ h => show k < Wd.heap.size by omega))
            have HC6 := Lib.hid (HC5.out.keepR hk5 (by omega))
            have HO6 := Lib.hid (HO5.out.keepR hk5 (by omega))
            have HR6 := Lib.hid hr5
            have HP6 := Lib.hid hp5
            have HK6 := Lib.hid (HK5.out.trans hk5)
            obtain ⟨q5, m5, z5, b5, l5, c5, rfl⟩ := hx5.four
            replace y0 := HC6.out.cell (j := 0) (by simp)
            replace y1 := HC6.out.cell (j := 1) (by simp)
            replace y2 := HC6.out.cell (j := 2) (by simp)
            replace y3 := HC6.out.cell (j := 3) (by simp)
            simp only [List.getElem_cons_zero, List.getElem_cons_succ] at y0 y1 y2 y3
            clear hk5 hx5 hr5 hp5
            refine hK.out _ _ trivial (fun hH => ?_)
            clear hK K
            try simp only [Act.put, List.setIfInBounds_toArray, List.set_cons_zero, List.set_cons_succ]
            refine wpAnyH_ready (rs := [3]) (by kernel_rfl) (by simp) ?_
            refine AllReadyH.cons (o := { dst := some 22, op := Op.call { callee := Callee.value (Operand.func 32), args := #[Operand.const (Value.int IntKind.u8 14), Operand.tmp 19, Operand.tmp 21], argTypes := #[5, 24, 24] }, type := 24, pos := "ref.go:189", after := #[{ on := 0, ground := Ground.data }, { on := 2, ground := Ground.data }, { on := 2, ground := Ground.chain }], guard := none }) rfl (fun K hK => ?_) AllReadyH.nil
            go_simp
            refine (rfTwo_walk (fun k => k < w.heap.size + 1 ∨ k = gb) 14 t t5 [.int .u8 q1, .int .i64 m1, .string z1, .slice b1 l2 c2] [.int .u8 q5, .int .i64 m5, .string z5, .slice b5 l5 c5] w5 (fun k h => by have := HC6.out.lt; have := HO6.out.lt; omega) HX6.out HX7.out).mono ?_
            rintro e w6 ⟨hb6, cs6, rfl, hx6⟩
            have HC7 := Lib.hid (Arr.below HC6.out hb6 HC6.out.lt)
            have HO7 := Lib.hid (Arr.below HO6.out hb6 HO6.out.lt)
            have HR7 := Lib.hid (HR6.out.below hb6)
            have HK7 := Lib.hid (HK6.out.next hb6)
            have HX8 := Lib.hid hx6
            obtain ⟨q6, m6, z6, b6, l6, c6, rfl⟩ := hx6.four
            have f0 := HC7.out.frozen 0
            have f1 := HC7.out.frozen 1
            have f2 := HC7.out.frozen 2
            have f3 := HC7.out.frozen 3
            replace y0 := HC7.out.cell (j := 0) (by simp)
            replace y1 := HC7.out.cell (j := 1) (by simp)
            replace y2 := HC7.out.cell (j := 2) (by simp)
            replace y3 := HC7.out.cell (j := 3) (by simp)
            simp only [List.getElem_cons_zero, List.getElem_cons_succ] at y0 y1 y2 y3
            clear hb6 hx6
            refine hK.out _ _ trivial (fun hH => ?_)
            clear hK K
            try simp only [Act.put, List.setIfInBounds_toArray, List.set_cons_zero, List.set_cons_succ]
            refine wpAnyH_ready (rs := [4]) (by kernel_rfl) (by simp) ?_
            refine AllReadyH.cons (o := { dst := none, op := Op.store 24 (Operand.tmp 3) (Operand.tmp 22), type := 0, pos := "ref.go:189", after := #[{ on := 3, ground := Ground.data }, { on := 3, ground := Ground.chain }, { on := 0, ground := Ground.phase }, { on := 1, ground := Ground.phase }, { on := 2, ground := Ground.phase }, { on := 3, ground := Ground.phase }], guard := none }) rfl (fun K hK => ?_) AllReadyH.nil
            go_simp
            refine hK.out _ _ trivial (fun hH => ?_)
            clear hK K
            try simp only [Act.put, List.setIfInBounds_toArray, List.set_cons_zero, List.set_cons_succ]
            refine wpAnyH_done (by kernel_rfl) ?_ _
            have HROW := Lib.hid (LoopW.store (gb := gb) HK7.out HR7.out HO7.out HC7.out HX8.out hRw hgb1)
            have HLP := Lib.hid (loop_next (k := 14) HL.out (by rw [HNOW.out]; rfl) (HX0.out ▸ HP6.out))
            have HRM := Lib.hid (remR_lt (w := wr) HGS.out (by rw [HNOW.out]; decide) HW.out.rd (HX0.out ▸ HP6.out) HROW.out.rd)
            clear HR5 HC5 HO5 HK5 HX5 HX6 HX7 HC6 HO6 HR6 HP6 HK6 HC7 HO7 HR7 HK7 HX8 y0 y1 y2 y3 f0 f1 f2 f3
            go_wp2_with fail
            exact ⟨⟨_, _, _, HROW, HLP⟩, HRM.out⟩
          · go_simp
            refine (HSUB.out x4 Wd HN4.out HG4.out HR5.out).mono ?_
            rintro e w5 ⟨hk5, x5, t5, cs5, rfl, hx5, hr5, hp5⟩
            have hoz : w.heap.size < Wd.heap.size := HO5.out.lt
            have hcz : gb < Wd.heap.size := HC5.out.lt
            have HX6 := Lib.hid (GX.keepR (X := fun k => k < w.heap.size + 1 ∨ k = gb) (Or.inl (by omega)) hk5 HX5.out)
            have HX7 := Lib.hid (hx5.mono (Y := fun k => k < w.heap.size + 1 ∨ k = gb) (fun k _ h => show k < Wd.heap.size by omega))
            have HC6 := Lib.hid (HC5.out.keepR hk5 (by omega))
            have HO6 := Lib.hid (HO5.out.keepR hk5 (by omega))
            have HR6 := Lib.hid hr5
            have HP6 := Lib.hid hp5
            have HK6 := Lib.hid (HK5.out.trans hk5)
            obtain ⟨q5, m5, z5, b5, l5, c5, rfl⟩ := hx5.four
            replace y0 := HC6.out.cell (j := 0) (by simp)
            replace y1 := HC6.out.cell (j := 1) (by simp)
            replace y2 := HC6.out.cell (j := 2) (by simp)
            replace y3 := HC6.out.cell (j := 3) (by simp)
            simp only [List.getElem_cons_zero, List.getElem_cons_succ] at y0 y1 y2 y3
            clear hk5 hx5 hr5 hp5
            refine hK.out _ _ trivial (fun hH => ?_)
            clear hK K
            try simp only [Act.put, List.setIfInBounds_toArray, List.set_cons_zero, List.set_cons_succ]
            refine wpAnyH_ready (rs := [0]) (by kernel_rfl) (by simp) ?_
            refine AllReadyH.cons (o := { dst := some 19, op := Op.load 24 (Operand.tmp 3), type := 24, pos := "ref.go:189", after := #[], guard := none }) rfl (fun K hK => ?_) AllReadyH.nil
            go_simp
            refine hK.out _ _ trivial (fun hH => ?_)
            clear hK K
            try simp only [Act.put, List.setIfInBounds_toArray, List.set_cons_zero, List.set_cons_succ]
            refine wpAnyH_ready (rs := [3]) (by kernel_rfl) (by simp) ?_
            refine AllReadyH.cons (o := { dst := some 22, op := Op.call { callee := Callee.value (Operand.func 32), args := #[Operand.const (Value.int IntKind.u8 14), Operand.tmp 19, Operand.tmp 21], argTypes := #[5, 24, 24] }, type := 24, pos := "ref.go:189", after := #[{ on := 0, ground := Ground.data }, { on := 2, ground := Ground.data }, { on := 2, ground := Ground.chain }], guard := none }) rfl (fun K hK => ?_) AllReadyH.nil
            go_simp
            refine (rfTwo_walk (fun k => k < w.heap.size + 1 ∨ k = gb) 14 t t5 [.int .u8 q1, .int .i64 m1, .string z1, .slice b1 l2 c2] [.int .u8 q5, .int .i64 m5, .string z5, .slice b5 l5 c5] w5 (fun k h => by have := HC6.out.lt; have := HO6.out.lt; omega) HX6.out HX7.out).mono ?_
            rintro e w6 ⟨hb6, cs6, rfl, hx6⟩
            have HC7 := Lib.hid (Arr.below HC6.out hb6 HC6.out.lt)
            have HO7 := Lib.hid (Arr.below HO6.out hb6 HO6.out.lt)
            have HR7 := Lib.hid (HR6.out.below hb6)
            have HK7 := Lib.hid (HK6.out.next hb6)
            have HX8 := Lib.hid hx6
            obtain ⟨q6, m6, z6, b6, l6, c6, rfl⟩ := hx6.four
            have f0 := HC7.out.frozen 0
            have f1 := HC7.out.frozen 1
            have f2 := HC7.out.frozen 2
            have f3 := HC7.out.frozen 3
            replace y0 := HC7.out.cell (j := 0) (by simp)
            replace y1 := HC7.out.cell (j := 1) (by simp)
            replace y2 := HC7.out.cell (j := 2) (by simp)
            replace y3 := HC7.out.cell (j := 3) (by simp)
            simp only [List.getElem_cons_zero, List.getElem_cons_succ] at y0 y1 y2 y3
            clear hb6 hx6
            refine hK.out _ _ trivial (fun hH => ?_)
            clear hK K
            try simp only [Act.put, List.setIfInBounds_toArray, List.set_cons_zero, List.set_cons_succ]
            refine wpAnyH_ready (rs := [4]) (by kernel_rfl) (by simp) ?_
            refine AllReadyH.cons (o := { dst := none, op := Op.store 24 (Operand.tmp 3) (Operand.tmp 22), type := 0, pos := "ref.go:189", after := #[{ on := 3, ground := Ground.data }, { on := 3, ground := Ground.chain }, { on := 0, ground := Ground.phase }, { on := 1, ground := Ground.phase }, { on := 2, ground := Ground.phase }, { on := 3, ground := Ground.phase }], guard := none }) rfl (fun K hK => ?_) AllReadyH.nil
            go_simp
            refine hK.out _ _ trivial (fun hH => ?_)
            clear hK K
            try simp only [Act.put, List.setIfInBounds_toArray, List.set_cons_zero, List.set_cons_succ]
            refine wpAnyH_done (by kernel_rfl) ?_ _
            have HROW := Lib.hid (LoopW.store (gb := gb) HK7.out HR7.out HO7.out HC7.out HX8.out hRw hgb1)
            have HLP := Lib.hid (loop_next (k := 14) HL.out (by rw [HNOW.out]; rfl) (HX0.out ▸ HP6.out))
            have HRM := Lib.hid (remR_lt (w := wr) HGS.out (by rw [HNOW.out]; decide) HW.out.rd (HX0.out ▸ HP6.out) HROW.out.rd)
            clear HR5 HC5 HO5 HK5 HX5 HX6 HX7 HC6 HO6 HR6 HP6 HK6 HC7 HO7 HR7 HK7 HX8 y0 y1 y2 y3 f0 f1 f2 f3
            go_wp2_with fail
            exact ⟨⟨_, _, _, HROW, HLP⟩, HRM.out⟩
        | false =>
          obtain ⟨rfl, hn2⟩ := hno rfl
          have HN2 := Lib.hid hn2
          clear hyes hno hn2
          have o0 := HO4.out.cell (j := 0) (by simp)
          have o1 := HO4.out.cell (j := 1) (by simp)
          have o2 := HO4.out.cell (j := 2) (by simp)
          have o3 := HO4.out.cell (j := 3) (by simp)
          simp only [List.getElem_cons_zero, List.getElem_cons_succ] at o0 o1 o2 o3
          have f0 := HO4.out.frozen 0
          have f1 := HO4.out.frozen 1
          have f2 := HO4.out.frozen 2
          have f3 := HO4.out.frozen 3
          go_wp2_with fail
          obtain ⟨k1, k2, k3, k4⟩ := storeO (d0 := .int .u8 q1) (d1 := .int .i64 m1) (d2 := .string z1) (d3 := .slice b1 l2 c2) HK4.out HR4.out HO4.out (GX.mono (fun k _ h => .inl h) HX4.out) hRw
          refine ret_guard (fn := Tryd.f62) rfl (g := w.heap.size) (cs := [.int .u8 q1, .int .i64 m1, .string z1, .slice b1 l2 c2]) rfl rfl rfl k3 ?_
          exact ⟨k1, _, _, _, rfl, k4, k2, loop_end HL.out (fun st' hst => by injection hst with hst; subst hst; unfold kSum; rw [if_neg HN1.out, if_neg HN2.out]) (fun fu st0 => by rw [pars])⟩
end Go.Proofs.YtkmgbkcpjlilpaaDoor
