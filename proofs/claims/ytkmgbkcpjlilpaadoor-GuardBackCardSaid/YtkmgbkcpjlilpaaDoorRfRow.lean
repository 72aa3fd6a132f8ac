/- docketref17: guard, side, product. Written by wip/rfgen.py. -/
import Derived.Deep.RegionHeld3
import Derived.Deep.RegionWith
import Derived.Test.YtkmgbkcpjlilpaaDoorRfSub
namespace Go.Proofs.YtkmgbkcpjlilpaaDoor
open Go.RowKit

set_option maxHeartbeats 8000000 in
set_option maxRecDepth 100000 in
theorem rf_guard {R : Nat} {s : ByteArray} {N : Nat} (hs : s.size ≤ 17000) (hsub : SubX R s N 30 .side) : SubX R s N 17 .guard := by
  intro x0 w hN hg h
  have hRw : R < w.heap.size := h.lt
  have HSUB := Lib.hid hsub
  have HN := Lib.hid hN
  have HG := Lib.hid hg
  have hra : RfIs R (w.alloc (.cells #[.int .u8 0, .int .i64 0, .string ⟨#[]⟩, .slice none 0 0] 24)) s x0 := h.below ((Below.refl _ w).alloc (Nat.le_refl _) _)
  have HRA := Lib.hid hra
  clear h hra hg hN hsub
  go_enter Tryd.func17, Tryd.ntmps17
  go_wp2_with fail
  refine (HSUB.out x0 _ HN.out HG.out HRA.out).mono ?_
  rintro e w2 ⟨hk2, x1, t1, cs, rfl, hx1, hr1, hp1⟩
  have HK2 := Lib.hid ((KeepR.of ((Below.refl w.heap.size w).alloc (Nat.le_refl _) (.cells #[.int .u8 0, .int .i64 0, .string ⟨#[]⟩, .slice none 0 0] 24))).trans hk2)
  have hgb1 : w.heap.size < w2.heap.size := by have := hk2.size; rw [size_alloc] at this; omega
  have HA2 := Lib.hid ((Arr.new w [.int .u8 0, .int .i64 0, .string ⟨#[]⟩, .slice none 0 0] 24).keepR hk2 (by omega))
  have HL2 := Lib.hid (loop_first (kinds := kOr) hp1)
  have hX1 : GX (fun k => k < w.heap.size + 1 ∨ k = w2.heap.size) w2 t1 cs := hx1.mono (fun k hk h => show k < (w.alloc _).heap.size by rw [size_alloc]; omega)
  obtain ⟨k1, n1, s1, a1, l1, c1, rfl⟩ := hx1.four
  have HRow : Hid (LoopW R s w w2.heap.size (w2.alloc (.cells #[.int .u8 k1, .int .i64 n1, .string s1, .slice a1 l1 c1] 24)) x1 t1 [.int .u8 k1, .int .i64 n1, .string s1, .slice a1 l1 c1]) :=
    ⟨hr1.below ((Below.refl _ _).alloc (Nat.le_refl _) _), HK2.out.alloc _, HA2.out.alloc _, Arr.new w2 [.int .u8 k1, .int .i64 n1, .string s1, .slice a1 l1 c1] 24, hX1.below ((Below.refl w2.heap.size w2).alloc (Nat.le_refl _) _)⟩
  clear hk2 hX1 hx1 hr1 hp1 HRA HK2 HA2
  go_wp2_with fail
  generalize w2.alloc (.cells #[.int .u8 k1, .int .i64 n1, .string s1, .slice a1 l1 c1] 24) = w3 at *
  generalize w2.heap.size = gb at *
  go_loopw [6, 7] (fun _ _ wr => ∃ x t cs, Hid (LoopW R s w gb wr x t cs) ∧ Hid (LoopX s .side kOr x0 x t)) (fun _ _ wr => remR R s wr)
  case atStart => exact ⟨x1, t1, _, HRow, HL2⟩
  case round =>
    clear HRow HL2
    obtain ⟨x, t, cs, HW, HL⟩ := hrel
    have HIS := Lib.hid (rfIsX R s x orS wr hs HL.out.gsx.le HW.out.rd)
    obtain ⟨b, hb⟩ : ∃ b, (isX s orS x).1 = b := ⟨_, rfl⟩
    obtain ⟨x4, hx4⟩ : ∃ x4, (isX s orS x).2 = x4 := ⟨_, rfl⟩
    have hyes : b = true → ∃ st, x = .ok st ∧ st.now = orS ∧ x4 = stepB s st.i := fun h => hx4 ▸ isX_yes (hb.trans h)
    have hno : b = false → x4 = x ∧ ∀ st, x = .ok st → ¬ st.now = orS := fun h => hx4 ▸ isX_no (hb.trans h)
    rw [hb, hx4] at HIS
    clear hb hx4
    go_wp2_with fail
    refine HIS.out.mono ?_
    rintro e w4 ⟨hk4, rfl, hr4⟩
    obtain ⟨q1, m1, z1, b1, l2, c2, rfl⟩ := HW.out.gx.four
    have HR4 := Lib.hid hr4
    have HC4 := Lib.hid (HW.out.cell.keepR hk4 (by omega))
    have HO4 := Lib.hid (HW.out.out.keepR hk4 (by omega))
    have HK4 := Lib.hid (HW.out.keep.trans hk4)
    have HX4 := Lib.hid (GX.keepR (X := fun k => k < w.heap.size + 1 ∨ k = gb) (Or.inl (by omega)) hk4 HW.out.gx)
    clear hk4 hr4 HIS
    have y0 := HC4.out.cell (j := 0) (by simp)
    have y1 := HC4.out.cell (j := 1) (by simp)
    have y2 := HC4.out.cell (j := 2) (by simp)
    have y3 := HC4.out.cell (j := 3) (by simp)
    simp only [List.getElem_cons_zero, List.getElem_cons_succ] at y0 y1 y2 y3
    cases b with
    | true =>
      obtain ⟨st, rfl, hnow, rfl⟩ := hyes rfl
      have hgs := HL.out.gsx st rfl
      have HGS := Lib.hid hgs
      have HNOW := Lib.hid hnow
      have HG4 := Lib.hid (GSX.step hgs)
      have HN4 : Hid (∀ st', stepB s st.i = .ok st' → s.size - st'.pos < N) := fun st' hst => by
        have h1 := (step_gs hgs.le hst).2
        have h2 := hgs.pos
        cases x0 with
        | error b => cases (show Except.ok st = Except.error b from HL.out)
        | ok st0 =>
          obtain ⟨_, _, _, h3, _⟩ := HL.out
          have h4 := HN.out st0 rfl
          omega
      generalize hx4 : stepB s st.i = x4 at *
      have HX0 := Lib.hid hx4
      clear hx4 hyes hno hgs hnow
      go_wp2_with fail
      refine wp_region_held_drew (S := fun _ => True) (by kernel_rfl) trivial (fun hH => ?_)
      have HR5 := Lib.hid (HR4.out.below (Below.refl w4.heap.size w4).drew)
      have HC5 := Lib.hid (Arr.drew HC4.out)
      have HO5 := Lib.hid (Arr.drew HO4.out)
      have HK5 := Lib.hid (KeepR.drew HK4.out)
      have HX5 := Lib.hid (HX4.out.below (Below.refl w4.heap.size w4).drew)
      clear HR4 HC4 HO4 HK4 HX4
      replace y0 := HC5.out.cell (j := 0) (by simp)
      replace y1 := HC5.out.cell (j := 1) (by simp)
      replace y2 := HC5.out.cell (j := 2) (by simp)
      replace y3 := HC5.out.cell (j := 3) (by simp)
      simp only [List.getElem_cons_zero, List.getElem_cons_succ] at y0 y1 y2 y3
      generalize w4.drew = Wd at *
      refine wpAnyH_take (i := 1) (oi := { dst := some 9, op := Op.move (Operand.tmp 0), type := 45, pos := "ref.go:156", after := #[], guard := none }) (v := .pointer (some ⟨R, 0, none⟩)) rfl (by kernel_rfl) (by kernel_rfl) (by kernel_rfl) (fun _ _ _ h => h) (Or.inl ⟨by rfl, fun W hS => by go_simp⟩) hH ?_
      simp only [Act.put, List.setIfInBounds_toArray, List.set_cons_zero, List.set_cons_succ]
      refine wpAnyH_ready (rs := [0, 2]) (by kernel_rfl) (by simp) ?_
      refine AllReadyH.cons (o := { dst := some 8, op := Op.load 24 (Operand.tmp 3), type := 24, pos := "ref.go:156", after := #[], guard := none }) rfl (fun K hK => ?_) (AllReadyH.cons (o := { dst := some 10, op := Op.call { callee := Callee.value (Operand.func 30), args := #[Operand.tmp 9], argTypes := #[45] }, type := 24, pos := "ref.go:156", after := #[{ on := 1, ground := Ground.data }], guard := none }) rfl (fun K hK => ?_) AllReadyH.nil)
      · go_simp
        refine hK.out _ _ trivial (fun hH => ?_)
        clear hK K
        try simp only [Act.put, List.setIfInBounds_toArray, List.set_cons_zero, List.set_cons_succ]
        refine wpAnyH_ready (rs := [2]) (by kernel_rfl) (by simp) ?_
        refine AllReadyH.cons (o := { dst := some 10, op := Op.call { callee := Callee.value (Operand.func 30), args := #[Operand.tmp 9], argTypes := #[45] }, type := 24, pos := "ref.go:156", after := #[{ on := 1, ground := Ground.data }], guard := none }) rfl (fun K hK => ?_) AllReadyH.nil
        go_simp
        refine (HSUB.out x4 Wd HN4.out HG4.out HR5.out).mono ?_
        rintro e w5 ⟨hk5, x5, t5, cs5, rfl, hx5, hr5, hp5⟩
        have hoz : w.heap.size < Wd.heap.size := HO5.out.lt
        have hcz : gb < Wd.heap.size := HC5.out.lt
        have HX6 := Lib.hid (GX.keepR (X := fun k => k < w.heap.size + 1 ∨ k = gb) (Or.inl (by omega)) hk5 HX5.out)
        have HX7 := Lib.hid (hx5.mono (Y := fun k => k < w.heap.size + 1 ∨ k = gb) (fun k _ h => show k < Wd.heap.size by omega))
        have HC6 := Lib.hid (HC5.out.keepR hk5 (by omega))
        have HO6 := Lib.hid (HO5.out.keepR hk5 (by omega))
        have HR6 := Lib.hid hr5
        have HP6 := Lib.hid hp5
        have HK6 := Lib.hid (HK5.out.trans hk5)
        obtain ⟨q5, m5, z5, b5, l5, c5, rfl⟩ := hx5.four
        replace y0 := HC6.out.cell (j := 0) (by simp)
        replace y1 := HC6.out.cell (j := 1) (by simp)
        replace y2 := HC6.out.cell (j := 2) (by simp)
        replace y3 := HC6.out.cell (j := 3) (by simp)
        simp only [List.getElem_cons_zero, List.getElem_cons_succ] at y0 y1 y2 y3
        clear hk5 hx5 hr5 hp5
        refine hK.out _ _ trivial (fun hH => ?_)
        clear hK K
        try simp only [Act.put, List.setIfInBounds_toArray, List.set_cons_zero, List.set_cons_succ]
        refine wpAnyH_ready (rs := [3]) (by kernel_rfl) (by simp) ?_
        refine AllReadyH.cons (o := { dst := some 11, op := Op.call { callee := Callee.value (Operand.func 32), args := #[Operand.const (Value.int IntKind.u8 10), Operand.tmp 8, Operand.tmp 10], argTypes := #[5, 24, 24] }, type := 24, pos := "ref.go:156", after := #[{ on := 0, ground := Ground.data }, { on := 2, ground := Ground.data }, { on := 2, ground := Ground.chain }], guard := none }) rfl (fun K hK => ?_) AllReadyH.nil
        go_simp
        refine (rfTwo_walk (fun k => k < w.heap.size + 1 ∨ k = gb) 10 t t5 [.int .u8 q1, .int .i64 m1, .string z1, .slice b1 l2 c2] [.int .u8 q5, .int .i64 m5, .string z5, .slice b5 l5 c5] w5 (fun k h => by have := HC6.out.lt; have := HO6.out.lt; omega) HX6.out HX7.out).mono ?_
        rintro e w6 ⟨hb6, cs6, rfl, hx6⟩
        have HC7 := Lib.hid (Arr.below HC6.out hb6 HC6.out.lt)
        have HO7 := Lib.hid (Arr.below HO6.out hb6 HO6.out.lt)
        have HR7 := Lib.hid (HR6.out.below hb6)
        have HK7 := Lib.hid (HK6.out.next hb6)
        have HX8 := Lib.hid hx6
        obtain ⟨q6, m6, z6, b6, l6, c6, rfl⟩ := hx6.four
        have f0 := HC7.out.frozen 0
        have f1 := HC7.out.frozen 1
        have f2 := HC7.out.frozen 2
        have f3 := HC7.out.frozen 3
        replace y0 := HC7.out.cell (j := 0) (by simp)
        replace y1 := HC7.out.cell (j := 1) (by simp)
        replace y2 := HC7.out.cell (j := 2) (by simp)
        replace y3 := HC7.out.cell (j := 3) (by simp)
        simp only [List.getElem_cons_zero, List.getElem_cons_succ] at y0 y1 y2 y3
        clear hb6 hx6
        refine hK.out _ _ trivial (fun hH => ?_)
        clear hK K
        try simp only [Act.put, List.setIfInBounds_toArray, List.set_cons_zero, List.set_cons_succ]
        refine wpAnyH_ready (rs := [4]) (by kernel_rfl) (by simp) ?_
        refine AllReadyH.cons (o := { dst := none, op := Op.store 24 (Operand.tmp 3) (Operand.tmp 11), type := 0, pos := "ref.go:156", after := #[{ on := 3, ground := Ground.data }, { on := 3, ground := Ground.chain }, { on := 0, ground := Ground.phase }, { on := 1, ground := Ground.phase }, { on := 2, ground := Ground.phase }, { on := 3, ground := Ground.phase }], guard := none }) rfl (fun K hK => ?_) AllReadyH.nil
        go_simp
        refine hK.out _ _ trivial (fun hH => ?_)
        clear hK K
        try simp only [Act.put, List.setIfInBounds_toArray, List.set_cons_zero, List.set_cons_succ]
        refine wpAnyH_done (by kernel_rfl) ?_ _
        have HROW := Lib.hid (LoopW.store (gb := gb) HK7.out HR7.out HO7.out HC7.out HX8.out hRw hgb1)
        have HLP := Lib.hid (loop_next (k := 10) HL.out (by rw [HNOW.out]; rfl) (HX0.out ▸ HP6.out))
        have HRM := Lib.hid (remR_lt (w := wr) HGS.out (by rw [HNOW.out]; decide) HW.out.rd (HX0.out ▸ HP6.out) HROW.out.rd)
        clear HR5 HC5 HO5 HK5 HX5 HX6 HX7 HC6 HO6 HR6 HP6 HK6 HC7 HO7 HR7 HK7 HX8 y0 y1 y2 y3 f0 f1 f2 f3
        go_wp2_with fail
        exact ⟨⟨_, _, _, HROW, HLP⟩, HRM.out⟩
      · go_simp
        refine (HSUB.out x4 Wd HN4.out HG4.out HR5.out).mono ?_
        rintro e w5 ⟨hk5, x5, t5, cs5, rfl, hx5, hr5, hp5⟩
        have hoz : w.heap.size < Wd.heap.size := HO5.out.lt
        have hcz : gb < Wd.heap.size := HC5.out.lt
        have HX6 := Lib.hid (GX.keepR (X := fun k => k < w.heap.size + 1 ∨ k = gb) (Or.inl (by omega)) hk5 HX5.out)
        have HX7 := Lib.hid (hx5.mono (Y := fun k => k < w.heap.size + 1 ∨ k = gb) (fun k _ h => show k < Wd.heap.size by omega))
        have HC6 := Lib.hid (HC5.out.keepR hk5 (by omega))
        have HO6 := Lib.hid (HO5.out.keepR hk5 (by omega))
        have HR6 := Lib.hid hr5
        have HP6 := Lib.hid hp5
        have HK6 := Lib.hid (HK5.out.trans hk5)
        obtain ⟨q5, m5, z5, b5, l5, c5, rfl⟩ := hx5.four
        replace y0 := HC6.out.cell (j := 0) (by simp)
        replace y1 := HC6.out.cell (j := 1) (by simp)
        replace y2 := HC6.out.cell (j := 2) (by simp)
        replace y3 := HC6.out.cell (j := 3) (by simp)
        simp only [List.getElem_cons_zero, List.getElem_cons_succ] at y0 y1 y2 y3
        clear hk5 hx5 hr5 hp5
        refine hK.out _ _ trivial (fun hH => ?_)
        clear hK K
        try simp only [Act.put, List.setIfInBounds_toArray, List.set_cons_zero, List.set_cons_succ]
        refine wpAnyH_ready (rs := [0]) (by kernel_rfl) (by simp) ?_
        refine AllReadyH.cons (o := { dst := some 8, op := Op.load 24 (Operand.tmp 3), type := 24, pos := "ref.go:156", after := #[], guard := none }) rfl (fun K hK => ?_) AllReadyH.nil
        go_simp
        refine hK.out _ _ trivial (fun hH => ?_)
        clear hK K
        try simp only [Act.put, List.setIfInBounds_toArray, List.set_cons_zero, List.set_cons_succ]
        refine wpAnyH_ready (rs := [3]) (by kernel_rfl) (by simp) ?_
        refine AllReadyH.cons (o := { dst := some 11, op := Op.call { callee := Callee.value (Operand.func 32), args := #[Operand.const (Value.int IntKind.u8 10), Operand.tmp 8, Operand.tmp 10], argTypes := #[5, 24, 24] }, type := 24, pos := "ref.go:156", after := #[{ on := 0, ground := Ground.data }, { on := 2, ground := Ground.data }, { on := 2, ground := Ground.chain }], guard := none }) rfl (fun K hK => ?_) AllReadyH.nil
        go_simp
        refine (rfTwo_walk (fun k => k < w.heap.size + 1 ∨ k = gb) 10 t t5 [.int .u8 q1, .int .i64 m1, .string z1, .slice b1 l2 c2] [.int .u8 q5, .int .i64 m5, .string z5, .slice b5 l5 c5] w5 (fun k h => by have := HC6.out.lt; have := HO6.out.lt; omega) HX6.out HX7.out).mono ?_
        rintro e w6 ⟨hb6, cs6, rfl, hx6⟩
        have HC7 := Lib.hid (Arr.below HC6.out hb6 HC6.out.lt)
        have HO7 := Lib.hid (Arr.below HO6.out hb6 HO6.out.lt)
        have HR7 := Lib.hid (HR6.out.below hb6)
        have HK7 := Lib.hid (HK6.out.next hb6)
        have HX8 := Lib.hid hx6
        obtain ⟨q6, m6, z6, b6, l6, c6, rfl⟩ := hx6.four
        have f0 := HC7.out.frozen 0
        have f1 := HC7.out.frozen 1
        have f2 := HC7.out.frozen 2
        have f3 := HC7.out.frozen 3
        replace y0 := HC7.out.cell (j := 0) (by simp)
        replace y1 := HC7.out.cell (j := 1) (by simp)
        replace y2 := HC7.out.cell (j := 2) (by simp)
        replace y3 := HC7.out.cell (j := 3) (by simp)
        simp only [List.getElem_cons_zero, List.getElem_cons_succ] at y0 y1 y2 y3
        clear hb6 hx6
        refine hK.out _ _ trivial (fun hH => ?_)
        clear hK K
        try simp only [Act.put, List.setIfInBounds_toArray, List.set_cons_zero, List.set_cons_succ]
        refine wpAnyH_ready (rs := [4]) (by kernel_rfl) (by simp) ?_
        refine AllReadyH.cons (o := { dst := none, op := Op.store 24 (Operand.tmp 3) (Operand.tmp 11), type := 0, pos := "ref.go:156", after := #[{ on := 3, ground := Ground.data }, { on := 3, ground := Ground.chain }, { on := 0, ground := Ground.phase }, { on := 1, ground := Ground.phase }, { on := 2, ground := Ground.phase }, { on := 3, ground := Ground.phase }], guard := none }) rfl (fun K hK => ?_) AllReadyH.nil
        go_simp
        refine hK.out _ _ trivial (fun hH => ?_)
        clear hK K
        try simp only [Act.put, List.setIfInBounds_toArray, List.set_cons_zero, List.set_cons_succ]
        refine wpAnyH_done (by kernel_rfl) ?_ _
        have HROW := Lib.hid (LoopW.store (gb := gb) HK7.out HR7.out HO7.out HC7.out HX8.out hRw hgb1)
        have HLP := Lib.hid (loop_next (k := 10) HL.out (by rw [HNOW.out]; rfl) (HX0.out ▸ HP6.out))
        have HRM := Lib.hid (remR_lt (w := wr) HGS.out (by rw [HNOW.out]; decide) HW.out.rd (HX0.out ▸ HP6.out) HROW.out.rd)
        clear HR5 HC5 HO5 HK5 HX5 HX6 HX7 HC6 HO6 HR6 HP6 HK6 HC7 HO7 HR7 HK7 HX8 y0 y1 y2 y3 f0 f1 f2 f3
        go_wp2_with fail
        exact ⟨⟨_, _, _, HROW, HLP⟩, HRM.out⟩
    | false =>
      obtain ⟨rfl, hn⟩ := hno rfl
      have HNO := Lib.hid hn
      have o0 := HO4.out.cell (j := 0) (by simp)
      have o1 := HO4.out.cell (j := 1) (by simp)
      have o2 := HO4.out.cell (j := 2) (by simp)
      have o3 := HO4.out.cell (j := 3) (by simp)
      simp only [List.getElem_cons_zero, List.getElem_cons_succ] at o0 o1 o2 o3
      have f0 := HO4.out.frozen 0
      have f1 := HO4.out.frozen 1
      have f2 := HO4.out.frozen 2
      have f3 := HO4.out.frozen 3
      clear hyes hno hn
      go_wp2_with fail
      obtain ⟨k1, k2, k3, k4⟩ := storeO (d0 := .int .u8 q1) (d1 := .int .i64 m1) (d2 := .string z1) (d3 := .slice b1 l2 c2) HK4.out HR4.out HO4.out (HX4.out.mono fun k _ h => .inl h) hRw
      refine ret_guard (fn := Tryd.f17) rfl (g := w.heap.size) (cs := [.int .u8 q1, .int .i64 m1, .string z1, .slice b1 l2 c2]) rfl rfl rfl k3 ?_
      exact ⟨k1, _, _, _, rfl, k4, k2, loop_end HL.out (fun st hst => by unfold kOr; rw [if_neg (HNO.out st hst)]) (fun fu st0 => by rw [pars])⟩
set_option maxHeartbeats 8000000 in
set_option maxRecDepth 100000 in
theorem rf_side {R : Nat} {s : ByteArray} {N : Nat} (hs : s.size ≤ 17000) (hsub : SubX R s N 48 .part) : SubX R s N 30 .side := by
  intro x0 w hN hg h
  have hRw : R < w.heap.size := h.lt
  have HSUB := Lib.hid hsub
  have HN := Lib.hid hN
  have HG := Lib.hid hg
  have hra : RfIs R (w.alloc (.cells #[.int .u8 0, .int .i64 0, .string ⟨#[]⟩, .slice none 0 0] 24)) s x0 := h.below ((Below.refl _ w).alloc (Nat.le_refl _) _)
  have HRA := Lib.hid hra
  clear h hra hg hN hsub
  go_enter Tryd.func30, Tryd.ntmps30
  go_wp2_with fail
  refine (HSUB.out x0 _ HN.out HG.out HRA.out).mono ?_
  rintro e w2 ⟨hk2, x1, t1, cs, rfl, hx1, hr1, hp1⟩
  have HK2 := Lib.hid ((KeepR.of ((Below.refl w.heap.size w).alloc (Nat.le_refl _) (.cells #[.int .u8 0, .int .i64 0, .string ⟨#[]⟩, .slice none 0 0] 24))).trans hk2)
  have hgb1 : w.heap.size < w2.heap.size := by have := hk2.size; rw [size_alloc] at this; omega
  have HA2 := Lib.hid ((Arr.new w [.int .u8 0, .int .i64 0, .string ⟨#[]⟩, .slice none 0 0] 24).keepR hk2 (by omega))
  have HL2 := Lib.hid (loop_first (kinds := kAnd) hp1)
  have hX1 : GX (fun k => k < w.heap.size + 1 ∨ k = w2.heap.size) w2 t1 cs := hx1.mono (fun k hk h => show k < (w.alloc _).heap.size by rw [size_alloc]; omega)
  obtain ⟨k1, n1, s1, a1, l1, c1, rfl⟩ := hx1.four
  have HRow : Hid (LoopW R s w w2.heap.size (w2.alloc (.cells #[.int .u8 k1, .int .i64 n1, .string s1, .slice a1 l1 c1] 24)) x1 t1 [.int .u8 k1, .int .i64 n1, .string s1, .slice a1 l1 c1]) :=
    ⟨hr1.below ((Below.refl _ _).alloc (Nat.le_refl _) _), HK2.out.alloc _, HA2.out.alloc _, Arr.new w2 [.int .u8 k1, .int .i64 n1, .string s1, .slice a1 l1 c1] 24, hX1.below ((Below.refl w2.heap.size w2).alloc (Nat.le_refl _) _)⟩
  clear hk2 hX1 hx1 hr1 hp1 HRA HK2 HA2
  go_wp2_with fail
  generalize w2.alloc (.cells #[.int .u8 k1, .int .i64 n1, .string s1, .slice a1 l1 c1] 24) = w3 at *
  generalize w2.heap.size = gb at *
  go_loopw [6, 7] (fun _ _ wr => ∃ x t cs, Hid (LoopW R s w gb wr x t cs) ∧ Hid (LoopX s .part kAnd x0 x t)) (fun _ _ wr => remR R s wr)
  case atStart => exact ⟨x1, t1, _, HRow, HL2⟩
  case round =>
    clear HRow HL2
    obtain ⟨x, t, cs, HW, HL⟩ := hrel
    have HIS := Lib.hid (rfIsX R s x andS wr hs HL.out.gsx.le HW.out.rd)
    obtain ⟨b, hb⟩ : ∃ b, (isX s andS x).1 = b := ⟨_, rfl⟩
    obtain ⟨x4, hx4⟩ : ∃ x4, (isX s andS x).2 = x4 := ⟨_, rfl⟩
    have hyes : b = true → ∃ st, x = .ok st ∧ st.now = andS ∧ x4 = stepB s st.i := fun h => hx4 ▸ isX_yes (hb.trans h)
    have hno : b = false → x4 = x ∧ ∀ st, x = .ok st → ¬ st.now = andS := fun h => hx4 ▸ isX_no (hb.trans h)
    rw [hb, hx4] at HIS
    clear hb hx4
    go_wp2_with fail
    refine HIS.out.mono ?_
    rintro e w4 ⟨hk4, rfl, hr4⟩
    obtain ⟨q1, m1, z1, b1, l2, c2, rfl⟩ := HW.out.gx.four
    have HR4 := Lib.hid hr4
    have HC4 := Lib.hid (HW.out.cell.keepR hk4 (by omega))
    have HO4 := Lib.hid (HW.out.out.keepR hk4 (by omega))
    have HK4 := Lib.hid (HW.out.keep.trans hk4)
    have HX4 := Lib.hid (GX.keepR (X := fun k => k < w.heap.size + 1 ∨ k = gb) (Or.inl (by omega)) hk4 HW.out.gx)
    clear hk4 hr4 HIS
    have y0 := HC4.out.cell (j := 0) (by simp)
    have y1 := HC4.out.cell (j := 1) (by simp)
    have y2 := HC4.out.cell (j := 2) (by simp)
    have y3 := HC4.out.cell (j := 3) (by simp)
    simp only [List.getElem_cons_zero, List.getElem_cons_succ] at y0 y1 y2 y3
    cases b with
    | true =>
      obtain ⟨st, rfl, hnow, rfl⟩ := hyes rfl
      have hgs := HL.out.gsx st rfl
      have HGS := Lib.hid hgs
      have HNOW := Lib.hid hnow
      have HG4 := Lib.hid (GSX.step hgs)
      have HN4 : Hid (∀ st', stepB s st.i = .ok st' → s.size - st'.pos < N) := fun st' hst => by
        have h1 := (step_gs hgs.le hst).2
        have h2 := hgs.pos
        cases x0 with
        | error b => cases (show Except.ok st = Except.error b from HL.out)
        | ok st0 =>
          obtain ⟨_, _, _, h3, _⟩ := HL.out
          have h4 := HN.out st0 rfl
          omega
      generalize hx4 : stepB s st.i = x4 at *
      have HX0 := Lib.hid hx4
      clear hx4 hyes hno hgs hnow
      go_wp2_with fail
      refine wp_region_held_drew (S := fun _ => True) (by kernel_rfl) trivial (fun hH => ?_)
      have HR5 := Lib.hid (HR4.out.below (Below.refl w4.heap.size w4).drew)
      have HC5 := Lib.hid (Arr.drew HC4.out)
      have HO5 := Lib.hid (Arr.drew HO4.out)
      have HK5 := Lib.hid (KeepR.drew HK4.out)
      have HX5 := Lib.hid (HX4.out.below (Below.refl w4.heap.size w4).drew)
      clear HR4 HC4 HO4 HK4 HX4
      replace y0 := HC5.out.cell (j := 0) (by simp)
      replace y1 := HC5.out.cell (j := 1) (by simp)
      replace y2 := HC5.out.cell (j := 2) (by simp)
      replace y3 := HC5.out.cell (j := 3) (by simp)
      simp only [List.getElem_cons_zero, List.getElem_cons_succ] at y0 y1 y2 y3
      generalize w4.drew = Wd at *
      refine wpAnyH_take (i := 1) (oi := { dst := some 9, op := Op.move (Operand.tmp 0), type := 45, pos := "ref.go:164", after := #[], guard := none }) (v := .pointer (some ⟨R, 0, none⟩)) rfl (by kernel_rfl) (by kernel_rfl) (by kernel_rfl) (fun _ _ _ h => h) (Or.inl ⟨by rfl, fun W hS => by go_simp⟩) hH ?_
      simp only [Act.put, List.setIfInBounds_toArray, List.set_cons_zero, List.set_cons_succ]
      refine wpAnyH_ready (rs := [0, 2]) (by kernel_rfl) (by simp) ?_
      refine AllReadyH.cons (o := { dst := some 8, op := Op.load 24 (Operand.tmp 3), type := 24, pos := "ref.go:164", after := #[], guard := none }) rfl (fun K hK => ?_) (AllReadyH.cons (o := { dst := some 10, op := Op.call { callee := Callee.value (Operand.func 48), args := #[Operand.tmp 9], argTypes := #[45] }, type := 24, pos := "ref.go:164", after := #[{ on := 1, ground := Ground.data }], guard := none }) rfl (fun K hK => ?_) AllReadyH.nil)
      · go_simp
        refine hK.out _ _ trivial (fun hH => ?_)
        clear hK K
        try simp only [Act.put, List.setIfInBounds_toArray, List.set_cons_zero, List.set_cons_succ]
        refine wpAnyH_ready (rs := [2]) (by kernel_rfl) (by simp) ?_
        refine AllReadyH.cons (o := { dst := some 10, op := Op.call { callee := Callee.value (Operand.func 48), args := #[Operand.tmp 9], argTypes := #[45] }, type := 24, pos := "ref.go:164", after := #[{ on := 1, ground := Ground.data }], guard := none }) rfl (fun K hK => ?_) AllReadyH.nil
        go_simp
        refine (HSUB.out x4 Wd HN4.out HG4.out HR5.out).mono ?_
        rintro e w5 ⟨hk5, x5, t5, cs5, rfl, hx5, hr5, hp5⟩
        have hoz : w.heap.size < Wd.heap.size := HO5.out.lt
        have hcz : gb < Wd.heap.size := HC5.out.lt
        have HX6 := Lib.hid (GX.keepR (X := fun k => k < w.heap.size + 1 ∨ k = gb) (Or.inl (by omega)) hk5 HX5.out)
        have HX7 := Lib.hid (hx5.mono (Y := fun k => k < w.heap.size + 1 ∨ k = gb) (fun k _ h => show k < Wd.heap.size by omega))
        have HC6 := Lib.hid (HC5.out.keepR hk5 (by omega))
        have HO6 := Lib.hid (HO5.out.keepR hk5 (by omega))
        have HR6 := Lib.hid hr5
        have HP6 := Lib.hid hp5
        have HK6 := Lib.hid (HK5.out.trans hk5)
        obtain ⟨q5, m5, z5, b5, l5, c5, rfl⟩ := hx5.four
        replace y0 := HC6.out.cell (j := 0) (by simp)
        replace y1 := HC6.out.cell (j := 1) (by simp)
        replace y2 := HC6.out.cell (j := 2) (by simp)
        replace y3 := HC6.out.cell (j := 3) (by simp)
        simp only [List.getElem_cons_zero, List.getElem_cons_succ] at y0 y1 y2 y3
        clear hk5 hx5 hr5 hp5
        refine hK.out _ _ trivial (fun hH => ?_)
        clear hK K
        try simp only [Act.put, List.setIfInBounds_toArray, List.set_cons_zero, List.set_cons_succ]
        refine wpAnyH_ready (rs := [3]) (by kernel_rfl) (by simp) ?_
        refine AllReadyH.cons (o := { dst := some 11, op := Op.call { callee := Callee.value (Operand.func 32), args := #[Operand.const (Value.int IntKind.u8 9), Operand.tmp 8, Operand.tmp 10], argTypes := #[5, 24, 24] }, type := 24, pos := "ref.go:164", after := #[{ on := 0, ground := Ground.data }, { on := 2, ground := Ground.data }, { on := 2, ground := Ground.chain }], guard := none }) rfl (fun K hK => ?_) AllReadyH.nil
        go_simp
        refine (rfTwo_walk (fun k => k < w.heap.size + 1 ∨ k = gb) 9 t t5 [.int .u8 q1, .int .i64 m1, .string z1, .slice b1 l2 c2] [.int .u8 q5, .int .i64 m5, .string z5, .slice b5 l5 c5] w5 (fun k h => by have := HC6.out.lt; have := HO6.out.lt; omega) HX6.out HX7.out).mono ?_
        rintro e w6 ⟨hb6, cs6, rfl, hx6⟩
        have HC7 := Lib.hid (Arr.below HC6.out hb6 HC6.out.lt)
        have HO7 := Lib.hid (Arr.below HO6.out hb6 HO6.out.lt)
        have HR7 := Lib.hid (HR6.out.below hb6)
        have HK7 := Lib.hid (HK6.out.next hb6)
        have HX8 := Lib.hid hx6
        obtain ⟨q6, m6, z6, b6, l6, c6, rfl⟩ := hx6.four
        have f0 := HC7.out.frozen 0
        have f1 := HC7.out.frozen 1
        have f2 := HC7.out.frozen 2
        have f3 := HC7.out.frozen 3
        replace y0 := HC7.out.cell (j := 0) (by simp)
        replace y1 := HC7.out.cell (j := 1) (by simp)
        replace y2 := HC7.out.cell (j := 2) (by simp)
        replace y3 := HC7.out.cell (j := 3) (by simp)
        simp only [List.getElem_cons_zero, List.getElem_cons_succ] at y0 y1 y2 y3
        clear hb6 hx6
        refine hK.out _ _ trivial (fun hH => ?_)
        clear hK K
        try simp only [Act.put, List.setIfInBounds_toArray, List.set_cons_zero, List.set_cons_succ]
        refine wpAnyH_ready (rs := [4]) (by kernel_rfl) (by simp) ?_
        refine AllReadyH.cons (o := { dst := none, op := Op.store 24 (Operand.tmp 3) (Operand.tmp 11), type := 0, pos := "ref.go:164", after := #[{ on := 3, ground := Ground.data }, { on := 3, ground := Ground.chain }, { on := 0, ground := Ground.phase }, { on := 1, ground := Ground.phase }, { on := 2, ground := Ground.phase }, { on := 3, ground := Ground.phase }], guard := none }) rfl (fun K hK => ?_) AllReadyH.nil
        go_simp
        refine hK.out _ _ trivial (fun hH => ?_)
        clear hK K
        try simp only [Act.put, List.setIfInBounds_toArray, List.set_cons_zero, List.set_cons_succ]
        refine wpAnyH_done (by kernel_rfl) ?_ _
        have HROW := Lib.hid (LoopW.store (gb := gb) HK7.out HR7.out HO7.out HC7.out HX8.out hRw hgb1)
        have HLP := Lib.hid (loop_next (k := 9) HL.out (by rw [HNOW.out]; rfl) (HX0.out ▸ HP6.out))
        have HRM := Lib.hid (remR_lt (w := wr) HGS.out (by rw [HNOW.out]; decide) HW.out.rd (HX0.out ▸ HP6.out) HROW.out.rd)
        clear HR5 HC5 HO5 HK5 HX5 HX6 HX7 HC6 HO6 HR6 HP6 HK6 HC7 HO7 HR7 HK7 HX8 y0 y1 y2 y3 f0 f1 f2 f3
        go_wp2_with fail
        exact ⟨⟨_, _, _, HROW, HLP⟩, HRM.out⟩
      · go_simp
        refine (HSUB.out x4 Wd HN4.out HG4.out HR5.out).mono ?_
        rintro e w5 ⟨hk5, x5, t5, cs5, rfl, hx5, hr5, hp5⟩
        have hoz : w.heap.size < Wd.heap.size := HO5.out.lt
        have hcz : gb < Wd.heap.size := HC5.out.lt
        have HX6 := Lib.hid (GX.keepR (X := fun k => k < w.heap.size + 1 ∨ k = gb) (Or.inl (by omega)) hk5 HX5.out)
        have HX7 := Lib.hid (hx5.mono (Y := fun k => k < w.heap.size + 1 ∨ k = gb) (fun k _ h => show k < Wd.heap.size by omega))
        have HC6 := Lib.hid (HC5.out.keepR hk5 (by omega))
        have HO6 := Lib.hid (HO5.out.keepR hk5 (by omega))
        have HR6 := Lib.hid hr5
        have HP6 := Lib.hid hp5
        have HK6 := Lib.hid (HK5.out.trans hk5)
        obtain ⟨q5, m5, z5, b5, l5, c5, rfl⟩ := hx5.four
        replace y0 := HC6.out.cell (j := 0) (by simp)
        replace y1 := HC6.out.cell (j := 1) (by simp)
        replace y2 := HC6.out.cell (j := 2) (by simp)
        replace y3 := HC6.out.cell (j := 3) (by simp)
        simp only [List.getElem_cons_zero, List.getElem_cons_succ] at y0 y1 y2 y3
        clear hk5 hx5 hr5 hp5
        refine hK.out _ _ trivial (fun hH => ?_)
        clear hK K
        try simp only [Act.put, List.setIfInBounds_toArray, List.set_cons_zero, List.set_cons_succ]
        refine wpAnyH_ready (rs := [0]) (by kernel_rfl) (by simp) ?_
        refine AllReadyH.cons (o := { dst := some 8, op := Op.load 24 (Operand.tmp 3), type := 24, pos := "ref.go:164", after := #[], guard := none }) rfl (fun K hK => ?_) AllReadyH.nil
        go_simp
        refine hK.out _ _ trivial (fun hH => ?_)
        clear hK K
        try simp only [Act.put, List.setIfInBounds_toArray, List.set_cons_zero, List.set_cons_succ]
        refine wpAnyH_ready (rs := [3]) (by kernel_rfl) (by simp) ?_
        refine AllReadyH.cons (o := { dst := some 11, op := Op.call { callee := Callee.value (Operand.func 32), args := #[Operand.const (Value.int IntKind.u8 9), Operand.tmp 8, Operand.tmp 10], argTypes := #[5, 24, 24] }, type := 24, pos := "ref.go:164", after := #[{ on := 0, ground := Ground.data }, { on := 2, ground := Ground.data }, { on := 2, ground := Ground.chain }], guard := none }) rfl (fun K hK => ?_) AllReadyH.nil
        go_simp
        refine (rfTwo_walk (fun k => k < w.heap.size + 1 ∨ k = gb) 9 t t5 [.int .u8 q1, .int .i64 m1, .string z1, .slice b1 l2 c2] [.int .u8 q5, .int .i64 m5, .string z5, .slice b5 l5 c5] w5 (fun k h => by have := HC6.out.lt; have := HO6.out.lt; omega) HX6.out HX7.out).mono ?_
        rintro e w6 ⟨hb6, cs6, rfl, hx6⟩
        have HC7 := Lib.hid (Arr.below HC6.out hb6 HC6.out.lt)
        have HO7 := Lib.hid (Arr.below HO6.out hb6 HO6.out.lt)
        have HR7 := Lib.hid (HR6.out.below hb6)
        have HK7 := Lib.hid (HK6.out.next hb6)
        have HX8 := Lib.hid hx6
        obtain ⟨q6, m6, z6, b6, l6, c6, rfl⟩ := hx6.four
        have f0 := HC7.out.frozen 0
        have f1 := HC7.out.frozen 1
        have f2 := HC7.out.frozen 2
        have f3 := HC7.out.frozen 3
        replace y0 := HC7.out.cell (j := 0) (by simp)
        replace y1 := HC7.out.cell (j := 1) (by simp)
        replace y2 := HC7.out.cell (j := 2) (by simp)
        replace y3 := HC7.out.cell (j := 3) (by simp)
        simp only [List.getElem_cons_zero, List.getElem_cons_succ] at y0 y1 y2 y3
        clear hb6 hx6
        refine hK.out _ _ trivial (fun hH => ?_)
        clear hK K
        try simp only [Act.put, List.setIfInBounds_toArray, List.set_cons_zero, List.set_cons_succ]
        refine wpAnyH_ready (rs := [4]) (by kernel_rfl) (by simp) ?_
        refine AllReadyH.cons (o := { dst := none, op := Op.store 24 (Operand.tmp 3) (Operand.tmp 11), type := 0, pos := "ref.go:164", after := #[{ on := 3, ground := Ground.data }, { on := 3, ground := Ground.chain }, { on := 0, ground := Ground.phase }, { on := 1, ground := Ground.phase }, { on := 2, ground := Ground.phase }, { on := 3, ground := Ground.phase }], guard := none }) rfl (fun K hK => ?_) AllReadyH.nil
        go_simp
        refine hK.out _ _ trivial (fun hH => ?_)
        clear hK K
        try simp only [Act.put, List.setIfInBounds_toArray, List.set_cons_zero, List.set_cons_succ]
        refine wpAnyH_done (by kernel_rfl) ?_ _
        have HROW := Lib.hid (LoopW.store (gb := gb) HK7.out HR7.out HO7.out HC7.out HX8.out hRw hgb1)
        have HLP := Lib.hid (loop_next (k := 9) HL.out (by rw [HNOW.out]; rfl) (HX0.out ▸ HP6.out))
        have HRM := Lib.hid (remR_lt (w := wr) HGS.out (by rw [HNOW.out]; decide) HW.out.rd (HX0.out ▸ HP6.out) HROW.out.rd)
        clear HR5 HC5 HO5 HK5 HX5 HX6 HX7 HC6 HO6 HR6 HP6 HK6 HC7 HO7 HR7 HK7 HX8 y0 y1 y2 y3 f0 f1 f2 f3
        go_wp2_with fail
        exact ⟨⟨_, _, _, HROW, HLP⟩, HRM.out⟩
    | false =>
      obtain ⟨rfl, hn⟩ := hno rfl
      have HNO := Lib.hid hn
      have o0 := HO4.out.cell (j := 0) (by simp)
      have o1 := HO4.out.cell (j := 1) (by simp)
      have o2 := HO4.out.cell (j := 2) (by simp)
      have o3 := HO4.out.cell (j := 3) (by simp)
      simp only [List.getElem_cons_zero, List.getElem_cons_succ] at o0 o1 o2 o3
      have f0 := HO4.out.frozen 0
      have f1 := HO4.out.frozen 1
      have f2 := HO4.out.frozen 2
      have f3 := HO4.out.frozen 3
      clear hyes hno hn
      go_wp2_with fail
      obtain ⟨k1, k2, k3, k4⟩ := storeO (d0 := .int .u8 q1) (d1 := .int .i64 m1) (d2 := .string z1) (d3 := .slice b1 l2 c2) HK4.out HR4.out HO4.out (HX4.out.mono fun k _ h => .inl h) hRw
      refine ret_guard (fn := Tryd.f30) rfl (g := w.heap.size) (cs := [.int .u8 q1, .int .i64 m1, .string z1, .slice b1 l2 c2]) rfl rfl rfl k3 ?_
      exact ⟨k1, _, _, _, rfl, k4, k2, loop_end HL.out (fun st hst => by unfold kAnd; rw [if_neg (HNO.out st hst)]) (fun fu st0 => by rw [pars])⟩
set_option maxHeartbeats 8000000 in
set_option maxRecDepth 100000 in
theorem rf_product {R : Nat} {s : ByteArray} {N : Nat} (hs : s.size ≤ 17000) (hsub : SubX R s N 80 .atom) : SubX R s N 73 .product := by
  intro x0 w hN hg h
  have hRw : R < w.heap.size := h.lt
  have HSUB := Lib.hid hsub
  have HN := Lib.hid hN
  have HG := Lib.hid hg
  have hra : RfIs R (w.alloc (.cells #[.int .u8 0, .int .i64 0, .string ⟨#[]⟩, .slice none 0 0] 24)) s x0 := h.below ((Below.refl _ w).alloc (Nat.le_refl _) _)
  have HRA := Lib.hid hra
  clear h hra hg hN hsub
  go_enter Tryd.func73, Tryd.ntmps73
  go_wp2_with fail
  refine (HSUB.out x0 _ HN.out HG.out HRA.out).mono ?_
  rintro e w2 ⟨hk2, x1, t1, cs, rfl, hx1, hr1, hp1⟩
  have HK2 := Lib.hid ((KeepR.of ((Below.refl w.heap.size w).alloc (Nat.le_refl _) (.cells #[.int .u8 0, .int .i64 0, .string ⟨#[]⟩, .slice none 0 0] 24))).trans hk2)
  have hgb1 : w.heap.size < w2.heap.size := by have := hk2.size; rw [size_alloc] at this; omega
  have HA2 := Lib.hid ((Arr.new w [.int .u8 0, .int .i64 0, .string ⟨#[]⟩, .slice none 0 0] 24).keepR hk2 (by omega))
  have HL2 := Lib.hid (loop_first (kinds := kMul) hp1)
  have hX1 : GX (fun k => k < w.heap.size + 1 ∨ k = w2.heap.size) w2 t1 cs := hx1.mono (fun k hk h => show k < (w.alloc _).heap.size by rw [size_alloc]; omega)
  obtain ⟨k1, n1, s1, a1, l1, c1, rfl⟩ := hx1.four
  have HRow : Hid (LoopW R s w w2.heap.size (w2.alloc (.cells #[.int .u8 k1, .int .i64 n1, .string s1, .slice a1 l1 c1] 24)) x1 t1 [.int .u8 k1, .int .i64 n1, .string s1, .slice a1 l1 c1]) :=
    ⟨hr1.below ((Below.refl _ _).alloc (Nat.le_refl _) _), HK2.out.alloc _, HA2.out.alloc _, Arr.new w2 [.int .u8 k1, .int .i64 n1, .string s1, .slice a1 l1 c1] 24, hX1.below ((Below.refl w2.heap.size w2).alloc (Nat.le_refl _) _)⟩
  clear hk2 hX1 hx1 hr1 hp1 HRA HK2 HA2
  go_wp2_with fail
  generalize w2.alloc (.cells #[.int .u8 k1, .int .i64 n1, .string s1, .slice a1 l1 c1] 24) = w3 at *
  generalize w2.heap.size = gb at *
  go_loopw [6, 7] (fun _ _ wr => ∃ x t cs, Hid (LoopW R s w gb wr x t cs) ∧ Hid (LoopX s .atom kMul x0 x t)) (fun _ _ wr => remR R s wr)
  case atStart => exact ⟨x1, t1, _, HRow, HL2⟩
  case round =>
    clear HRow HL2
    obtain ⟨x, t, cs, HW, HL⟩ := hrel
    have HIS := Lib.hid (rfIsX R s x mulS wr hs HL.out.gsx.le HW.out.rd)
    obtain ⟨b, hb⟩ : ∃ b, (isX s mulS x).1 = b := ⟨_, rfl⟩
    obtain ⟨x4, hx4⟩ : ∃ x4, (isX s mulS x).2 = x4 := ⟨_, rfl⟩
    have hyes : b = true → ∃ st, x = .ok st ∧ st.now = mulS ∧ x4 = stepB s st.i := fun h => hx4 ▸ isX_yes (hb.trans h)
    have hno : b = false → x4 = x ∧ ∀ st, x = .ok st → ¬ st.now = mulS := fun h => hx4 ▸ isX_no (hb.trans h)
    rw [hb, hx4] at HIS
    clear hb hx4
    go_wp2_with fail
    refine HIS.out.mono ?_
    rintro e w4 ⟨hk4, rfl, hr4⟩
    obtain ⟨q1, m1, z1, b1, l2, c2, rfl⟩ := HW.out.gx.four
    have HR4 := Lib.hid hr4
    have HC4 := Lib.hid (HW.out.cell.keepR hk4 (by omega))
    have HO4 := Lib.hid (HW.out.out.keepR hk4 (by omega))
    have HK4 := Lib.hid (HW.out.keep.trans hk4)
    have HX4 := Lib.hid (GX.keepR (X := fun k => k < w.heap.size + 1 ∨ k = gb) (Or.inl (by omega)) hk4 HW.out.gx)
    clear hk4 hr4 HIS
    have y0 := HC4.out.cell (j := 0) (by simp)
    have y1 := HC4.out.cell (j := 1) (by simp)
    have y2 := HC4.out.cell (j := 2) (by simp)
    have y3 := HC4.out.cell (j := 3) (by simp)
    simp only [List.getElem_cons_zero, List.getElem_cons_succ] at y0 y1 y2 y3
    cases b with
    | true =>
      obtain ⟨st, rfl, hnow, rfl⟩ := hyes rfl
      have hgs := HL.out.gsx st rfl
      have HGS := Lib.hid hgs
      have HNOW := Lib.hid hnow
      have HG4 := Lib.hid (GSX.step hgs)
      have HN4 : Hid (∀ st', stepB s st.i = .ok st' → s.size - st'.pos < N) := fun st' hst => by
        have h1 := (step_gs hgs.le hst).2
        have h2 := hgs.pos
        cases x0 with
        | error b => cases (show Except.ok st = Except.error b from HL.out)
        | ok st0 =>
          obtain ⟨_, _, _, h3, _⟩ := HL.out
          have h4 := HN.out st0 rfl
          omega
      generalize hx4 : stepB s st.i = x4 at *
      have HX0 := Lib.hid hx4
      clear hx4 hyes hno hgs hnow
      go_wp2_with fail
      refine wp_region_held_drew (S := fun _ => True) (by kernel_rfl) trivial (fun hH => ?_)
      have HR5 := Lib.hid (HR4.out.below (Below.refl w4.heap.size w4).drew)
      have HC5 := Lib.hid (Arr.drew HC4.out)
      have HO5 := Lib.hid (Arr.drew HO4.out)
      have HK5 := Lib.hid (KeepR.drew HK4.out)
      have HX5 := Lib.hid (HX4.out.below (Below.refl w4.heap.size w4).drew)
      clear HR4 HC4 HO4 HK4 HX4
      replace y0 := HC5.out.cell (j := 0) (by simp)
      replace y1 := HC5.out.cell (j := 1) (by simp)
      replace y2 := HC5.out.cell (j := 2) (by simp)
      replace y3 := HC5.out.cell (j := 3) (by simp)
      simp only [List.getElem_cons_zero, List.getElem_cons_succ] at y0 y1 y2 y3
      generalize w4.drew = Wd at *
      refine wpAnyH_take (i := 1) (oi := { dst := some 9, op := Op.move (Operand.tmp 0), type := 45, pos := "ref.go:200", after := #[], guard := none }) (v := .pointer (some ⟨R, 0, none⟩)) rfl (by kernel_rfl) (by kernel_rfl) (by kernel_rfl) (fun _ _ _ h => h) (Or.inl ⟨by rfl, fun W hS => by go_simp⟩) hH ?_
      simp only [Act.put, List.setIfInBounds_toArray, List.set_cons_zero, List.set_cons_succ]
      refine wpAnyH_ready (rs := [0, 2]) (by kernel_rfl) (by simp) ?_
      refine AllReadyH.cons (o := { dst := some 8, op := Op.load 24 (Operand.tmp 3), type := 24, pos := "ref.go:200", after := #[], guard := none }) rfl (fun K hK => ?_) (AllReadyH.cons (o := { dst := some 10, op := Op.call { callee := Callee.value (Operand.func 80), args := #[Operand.tmp 9], argTypes := #[45] }, type := 24, pos := "ref.go:200", after := #[{ on := 1, ground := Ground.data }], guard := none }) rfl (fun K hK => ?_) AllReadyH.nil)
      · go_simp
        refine hK.out _ _ trivial (fun hH => ?_)
        clear hK K
        try simp only [Act.put, List.setIfInBounds_toArray, List.set_cons_zero, List.set_cons_succ]
        refine wpAnyH_ready (rs := [2]) (by kernel_rfl) (by simp) ?_
        refine AllReadyH.cons (o := { dst := some 10, op := Op.call { callee := Callee.value (Operand.func 80), args := #[Operand.tmp 9], argTypes := #[45] }, type := 24, pos := "ref.go:200", after := #[{ on := 1, ground := Ground.data }], guard := none }) rfl (fun K hK => ?_) AllReadyH.nil
        go_simp
        refine (HSUB.out x4 Wd HN4.out HG4.out HR5.out).mono ?_
        rintro e w5 ⟨hk5, x5, t5, cs5, rfl, hx5, hr5, hp5⟩
        have hoz : w.heap.size < Wd.heap.size := HO5.out.lt
        have hcz : gb < Wd.heap.size := HC5.out.lt
        have HX6 := Lib.hid (GX.keepR (X := fun k => k < w.heap.size + 1 ∨ k = gb) (Or.inl (by omega)) hk5 HX5.out)
        have HX7 := Lib.hid (hx5.mono (Y := fun k => k < w.heap.size + 1 ∨ k = gb) (fun k _ h => show k < Wd.heap.size by omega))
        have HC6 := Lib.hid (HC5.out.keepR hk5 (by omega))
        have HO6 := Lib.hid (HO5.out.keepR hk5 (by omega))
        have HR6 := Lib.hid hr5
        have HP6 := Lib.hid hp5
        have HK6 := Lib.hid (HK5.out.trans hk5)
        obtain ⟨q5, m5, z5, b5, l5, c5, rfl⟩ := hx5.four
        replace y0 := HC6.out.cell (j := 0) (by simp)
        replace y1 := HC6.out.cell (j := 1) (by simp)
        replace y2 := HC6.out.cell (j := 2) (by simp)
        replace y3 := HC6.out.cell (j := 3) (by simp)
        simp only [List.getElem_cons_zero, List.getElem_cons_succ] at y0 y1 y2 y3
        clear hk5 hx5 hr5 hp5
        refine hK.out _ _ trivial (fun hH => ?_)
        clear hK K
        try simp only [Act.put, List.setIfInBounds_toArray, List.set_cons_zero, List.set_cons_succ]
        refine wpAnyH_ready (rs := [3]) (by kernel_rfl) (by simp) ?_
        refine AllReadyH.cons (o := { dst := some 11, op := Op.call { callee := Callee.value (Operand.func 32), args := #[Operand.const (Value.int IntKind.u8 15), Operand.tmp 8, Operand.tmp 10], argTypes := #[5, 24, 24] }, type := 24, pos := "ref.go:200", after := #[{ on := 0, ground := Ground.data }, { on := 2, ground := Ground.data }, { on := 2, ground := Ground.chain }], guard := none }) rfl (fun K hK => ?_) AllReadyH.nil
        go_simp
        refine (rfTwo_walk (fun k => k < w.heap.size + 1 ∨ k = gb) 15 t t5 [.int .u8 q1, .int .i64 m1, .string z1, .slice b1 l2 c2] [.int .u8 q5, .int .i64 m5, .string z5, .slice b5 l5 c5] w5 (fun k h => by have := HC6.out.lt; have := HO6.out.lt; omega) HX6.out HX7.out).mono ?_
        rintro e w6 ⟨hb6, cs6, rfl, hx6⟩
        have HC7 := Lib.hid (Arr.below HC6.out hb6 HC6.out.lt)
        have HO7 := Lib.hid (Arr.below HO6.out hb6 HO6.out.lt)
        have HR7 := Lib.hid (HR6.out.below hb6)
        have HK7 := Lib.hid (HK6.out.next hb6)
        have HX8 := Lib.hid hx6
        obtain ⟨q6, m6, z6, b6, l6, c6, rfl⟩ := hx6.four
        have f0 := HC7.out.frozen 0
        have f1 := HC7.out.frozen 1
        have f2 := HC7.out.frozen 2
        have f3 := HC7.out.frozen 3
        replace y0 := HC7.out.cell (j := 0) (by simp)
        replace y1 := HC7.out.cell (j := 1) (by simp)
        replace y2 := HC7.out.cell (j := 2) (by simp)
        replace y3 := HC7.out.cell (j := 3) (by simp)
        simp only [List.getElem_cons_zero, List.getElem_cons_succ] at y0 y1 y2 y3
        clear hb6 hx6
        refine hK.out _ _ trivial (fun hH => ?_)
        clear hK K
        try simp only [Act.put, List.setIfInBounds_toArray, List.set_cons_zero, List.set_cons_succ]
        refine wpAnyH_ready (rs := [4]) (by kernel_rfl) (by simp) ?_
        refine AllReadyH.cons (o := { dst := none, op := Op.store 24 (Operand.tmp 3) (Operand.tmp 11), type := 0, pos := "ref.go:200", after := #[{ on := 3, ground := Ground.data }, { on := 3, ground := Ground.chain }, { on := 0, ground := Ground.phase }, { on := 1, ground := Ground.phase }, { on := 2, ground := Ground.phase }, { on := 3, ground := Ground.phase }], guard := none }) rfl (fun K hK => ?_) AllReadyH.nil
        go_simp
        refine hK.out _ _ trivial (fun hH => ?_)
        clear hK K
        try simp only [Act.put, List.setIfInBounds_toArray, List.set_cons_zero, List.set_cons_succ]
        refine wpAnyH_done (by kernel_rfl) ?_ _
        have HROW := Lib.hid (LoopW.store (gb := gb) HK7.out HR7.out HO7.out HC7.out HX8.out hRw hgb1)
        have HLP := Lib.hid (loop_next (k := 15) HL.out (by rw [HNOW.out]; rfl) (HX0.out ▸ HP6.out))
        have HRM := Lib.hid (remR_lt (w := wr) HGS.out (by rw [HNOW.out]; decide) HW.out.rd (HX0.out ▸ HP6.out) HROW.out.rd)
        clear HR5 HC5 HO5 HK5 HX5 HX6 HX7 HC6 HO6 HR6 HP6 HK6 HC7 HO7 HR7 HK7 HX8 y0 y1 y2 y3 f0 f1 f2 f3
        go_wp2_with fail
        exact ⟨⟨_, _, _, HROW, HLP⟩, HRM.out⟩
      · go_simp
        refine (HSUB.out x4 Wd HN4.out HG4.out HR5.out).mono ?_
        rintro e w5 ⟨hk5, x5, t5, cs5, rfl, hx5, hr5, hp5⟩
        have hoz : w.heap.size < Wd.heap.size := HO5.out.lt
        have hcz : gb < Wd.heap.size := HC5.out.lt
        have HX6 := Lib.hid (GX.keepR (X := fun k => k < w.heap.size + 1 ∨ k = gb) (Or.inl (by omega)) hk5 HX5.out)
        have HX7 := Lib.hid (hx5.mono (Y := fun k => k < w.heap.size + 1 ∨ k = gb) (fun k _ h => show k < Wd.heap.size by omega))
        have HC6 := Lib.hid (HC5.out.keepR hk5 (by omega))
        have HO6 := Lib.hid (HO5.out.keepR hk5 (by omega))
        have HR6 := Lib.hid hr5
        have HP6 := Lib.hid hp5
        have HK6 := Lib.hid (HK5.out.trans hk5)
        obtain ⟨q5, m5, z5, b5, l5, c5, rfl⟩ := hx5.four
        replace y0 := HC6.out.cell (j := 0) (by simp)
        replace y1 := HC6.out.cell (j := 1) (by simp)
        replace y2 := HC6.out.cell (j := 2) (by simp)
        replace y3 := HC6.out.cell (j := 3) (by simp)
        simp only [List.getElem_cons_zero, List.getElem_cons_succ] at y0 y1 y2 y3
        clear hk5 hx5 hr5 hp5
        refine hK.out _ _ trivial (fun hH => ?_)
        clear hK K
        try simp only [Act.put, List.setIfInBounds_toArray, List.set_cons_zero, List.set_cons_succ]
        refine wpAnyH_ready (rs := [0]) (by kernel_rfl) (by simp) ?_
        refine AllReadyH.cons (o := { dst := some 8, op := Op.load 24 (Operand.tmp 3), type := 24, pos := "ref.go:200", after := #[], guard := none }) rfl (fun K hK => ?_) AllReadyH.nil
        go_simp
        refine hK.out _ _ trivial (fun hH => ?_)
        clear hK K
        try simp only [Act.put, List.setIfInBounds_toArray, List.set_cons_zero, List.set_cons_succ]
        refine wpAnyH_ready (rs := [3]) (by kernel_rfl) (by simp) ?_
        refine AllReadyH.cons (o := { dst := some 11, op := Op.call { callee := Callee.value (Operand.func 32), args := #[Operand.const (Value.int IntKind.u8 15), Operand.tmp 8, Operand.tmp 10], argTypes := #[5, 24, 24] }, type := 24, pos := "ref.go:200", after := #[{ on := 0, ground := Ground.data }, { on := 2, ground := Ground.data }, { on := 2, ground := Ground.chain }], guard := none }) rfl (fun K hK => ?_) AllReadyH.nil
        go_simp
        refine (rfTwo_walk (fun k => k < w.heap.size + 1 ∨ k = gb) 15 t t5 [.int .u8 q1, .int .i64 m1, .string z1, .slice b1 l2 c2] [.int .u8 q5, .int .i64 m5, .string z5, .slice b5 l5 c5] w5 (fun k h => by have := HC6.out.lt; have := HO6.out.lt; omega) HX6.out HX7.out).mono ?_
        rintro e w6 ⟨hb6, cs6, rfl, hx6⟩
        have HC7 := Lib.hid (Arr.below HC6.out hb6 HC6.out.lt)
        have HO7 := Lib.hid (Arr.below HO6.out hb6 HO6.out.lt)
        have HR7 := Lib.hid (HR6.out.below hb6)
        have HK7 := Lib.hid (HK6.out.next hb6)
        have HX8 := Lib.hid hx6
        obtain ⟨q6, m6, z6, b6, l6, c6, rfl⟩ := hx6.four
        have f0 := HC7.out.frozen 0
        have f1 := HC7.out.frozen 1
        have f2 := HC7.out.frozen 2
        have f3 := HC7.out.frozen 3
        replace y0 := HC7.out.cell (j := 0) (by simp)
        replace y1 := HC7.out.cell (j := 1) (by simp)
        replace y2 := HC7.out.cell (j := 2) (by simp)
        replace y3 := HC7.out.cell (j := 3) (by simp)
        simp only [List.getElem_cons_zero, List.getElem_cons_succ] at y0 y1 y2 y3
        clear hb6 hx6
        refine hK.out _ _ trivial (fun hH => ?_)
        clear hK K
        try simp only [Act.put, List.setIfInBounds_toArray, List.set_cons_zero, List.set_cons_succ]
        refine wpAnyH_ready (rs := [4]) (by kernel_rfl) (by simp) ?_
        refine AllReadyH.cons (o := { dst := none, op := Op.store 24 (Operand.tmp 3) (Operand.tmp 11), type := 0, pos := "ref.go:200", after := #[{ on := 3, ground := Ground.data }, { on := 3, ground := Ground.chain }, { on := 0, ground := Ground.phase }, { on := 1, ground := Ground.phase }, { on := 2, ground := Ground.phase }, { on := 3, ground := Ground.phase }], guard := none }) rfl (fun K hK => ?_) AllReadyH.nil
        go_simp
        refine hK.out _ _ trivial (fun hH => ?_)
        clear hK K
        try simp only [Act.put, List.setIfInBounds_toArray, List.set_cons_zero, List.set_cons_succ]
        refine wpAnyH_done (by kernel_rfl) ?_ _
        have HROW := Lib.hid (LoopW.store (gb := gb) HK7.out HR7.out HO7.out HC7.out HX8.out hRw hgb1)
        have HLP := Lib.hid (loop_next (k := 15) HL.out (by rw [HNOW.out]; rfl) (HX0.out ▸ HP6.out))
        have HRM := Lib.hid (remR_lt (w := wr) HGS.out (by rw [HNOW.out]; decide) HW.out.rd (HX0.out ▸ HP6.out) HROW.out.rd)
        clear HR5 HC5 HO5 HK5 HX5 HX6 HX7 HC6 HO6 HR6 HP6 HK6 HC7 HO7 HR7 HK7 HX8 y0 y1 y2 y3 f0 f1 f2 f3
        go_wp2_with fail
        exact ⟨⟨_, _, _, HROW, HLP⟩, HRM.out⟩
    | false =>
      obtain ⟨rfl, hn⟩ := hno rfl
      have HNO := Lib.hid hn
      have o0 := HO4.out.cell (j := 0) (by simp)
      have o1 := HO4.out.cell (j := 1) (by simp)
      have o2 := HO4.out.cell (j := 2) (by simp)
      have o3 := HO4.out.cell (j := 3) (by simp)
      simp only [List.getElem_cons_zero, List.getElem_cons_succ] at o0 o1 o2 o3
      have f0 := HO4.out.frozen 0
      have f1 := HO4.out.frozen 1
      have f2 := HO4.out.frozen 2
      have f3 := HO4.out.frozen 3
      clear hyes hno hn
      go_wp2_with fail
      obtain ⟨k1, k2, k3, k4⟩ := storeO (d0 := .int .u8 q1) (d1 := .int .i64 m1) (d2 := .string z1) (d3 := .slice b1 l2 c2) HK4.out HR4.out HO4.out (HX4.out.mono fun k _ h => .inl h) hRw
      refine ret_guard (fn := Tryd.f73) rfl (g := w.heap.size) (cs := [.int .u8 q1, .int .i64 m1, .string z1, .slice b1 l2 c2]) rfl rfl rfl k3 ?_
      exact ⟨k1, _, _, _, rfl, k4, k2, loop_end HL.out (fun st hst => by unfold kMul; rw [if_neg (HNO.out st hst)]) (fun fu st0 => by rw [pars])⟩
end Go.Proofs.YtkmgbkcpjlilpaaDoor
