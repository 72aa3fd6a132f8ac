/- docketlaw18: ModelNames, walked. -/
import Derived.Test.YtfbbkmdhnkmonaaGreatDoorH20
namespace Go.Proofs.YtfbbkmdhnkmonaaGreatDoor
open Go.RowKit

theorem Arr.keep {w w' : World} {g : Nat} {E : TypeId} {cs : List Value} (h : Arr w g E cs) (hb : Below w.heap.size w w') : Arr w' g E cs := ⟨(hb.block g h.lt).trans h.heap⟩
theorem SmM.alloc {w : World} {s0 : SentryD} {inn : Int} {g1 g2 g3 g4 : Nat} (h : SmM w s0 inn g1 g2 g3 g4) (o : Obj) : SmM (w.alloc o) s0 inn g1 g2 g3 g4 := ⟨h.ev.alloc o, h.st.alloc o, h.a.alloc o, h.b.alloc o⟩
theorem SmM.keep {w w' : World} {s0 : SentryD} {inn : Int} {g1 g2 g3 g4 : Nat} (h : SmM w s0 inn g1 g2 g3 g4) (hb : Below w.heap.size w w') : SmM w' s0 inn g1 g2 g3 g4 := ⟨h.ev.keep hb, h.st.keep hb, h.a.keep hb, h.b.keep hb⟩
theorem below_put {B : Nat} {w w' : World} (h : Below B w w') {a : Addr} (v : Value) (ha : B ≤ a.block) : Below B w (w'.setCell a v) :=
  ⟨h.os, h.tape, h.output, by simpa [World.setCell] using h.size, fun k hk => (Below.heap_setCell w' a v k (by omega)).trans (h.block k hk)⟩
/-- a model that lies in a box -/
def BoxOf (W : World) (B : Nat) (md : ModelD) : Prop := ∃ s0 inn nm g1 g2 g3 g4, md = smD nm s0 inn ∧ Arr W B 31 ((smV g1 g2).cs md) ∧ SmM W s0 inn g1 g2 g3 g4
theorem BoxOf.keep {w w' : World} {B : Nat} {md : ModelD} (h : BoxOf w B md) (hb : Below w.heap.size w w') : BoxOf w' B md := by
  obtain ⟨s0, inn, nm, g1, g2, g3, g4, h1, h2, h3⟩ := h
  exact ⟨s0, inn, nm, g1, g2, g3, g4, h1, h2.keep hb, h3.keep hb⟩
theorem BoxOf.check {W : World} {B : Nat} {md : ModelD} (h : BoxOf W B md) : ∃ a0 a1 a2 a3 a4 a5, W.cell? ⟨B, 0, none⟩ = some a0 ∧ W.cell? ⟨B, 1, none⟩ = some a1 ∧ W.cell? ⟨B, 2, none⟩ = some a2 ∧ W.cell? ⟨B, 3, none⟩ = some a3 ∧ W.cell? ⟨B, 4, none⟩ = some a4 ∧ W.cell? ⟨B, 5, none⟩ = some a5 ∧
    ∀ W', Below W.heap.size W W' → GRng W' → Calls Tryz.prog 9 #[.agg #[a0, a1, a2, a3, a4, a5]] W' (fun e w' => e = .returned (.int .i64 (checkE md)) ∧ Below W'.heap.size W' w') := by
  obtain ⟨s0, inn, nm, g1, g2, g3, g4, rfl, h2, h3⟩ := h
  obtain ⟨y0, y1, y2, y3, y4, y5⟩ := box6 h2 (Below.refl _ _)
  exact ⟨_, _, _, _, _, _, y0, y1, y2, y3, y4, y5, fun W' hb hv => check_walk (smD nm s0 inn) (smV g1 g2) W' (smD_sml _ _ _) (smD_txt _ _ _) (h3.keep hb).mem hv⟩
theorem size_put (w : World) (a : Addr) (v : Value) : (w.setCell a v).heap.size = w.heap.size := by simp [World.setCell]
set_option maxHeartbeats 16000000 in
set_option maxRecDepth 100000 in
theorem namesLaw_walk (w : World) (hv : GRng w) : Calls Tryz.prog 3 #[] w (fun e w' => e = .returned (.bool true) ∧ Below w.heap.size w w') := by
  have HS := Lib.hid (fun W => small_walk W)
  have HV := Lib.hid (fun W (h : Below w.heap.size w W) => hv.below h)
  have HL := Lib.hid (fun a b W (h : Below w.heap.size w W) (v : ModelV) (hM : ModelM false (From 0) W smOne v) => leansX_walk smOne v a b W (smD_sml _ _ _) (smD_txt _ _ _) hM (hv.below h))
  have HS1 := Lib.hid (HS.out w)
  clear hv
  go_enter Tryz.func3, Tryz.ntmps3
  go_wp2_with fail
  refine HS1.out.mono ?_
  rintro e w1 ⟨hb1, g1, g2, g3, g4, rfl, hS, -⟩
  have HL1 := Lib.hid (HL.out pB pA w1 hb1 (smV g1 g2) hS.mem)
  rw [la_one1] at HL1
  have HB1 := Lib.hid hb1
  clear hb1 hS HS1
  go_wp2_with fail
  refine HL1.out.mono ?_
  rintro e w2 ⟨rfl, hb2⟩
  have HB2 := Lib.hid (HB1.out.trans (hb2.mono HB1.out.size))
  have HS2 := Lib.hid (HS.out w2)
  clear hb2 HL1 HB1
  go_wp2_with fail
  refine HS2.out.mono ?_
  rintro e w3 ⟨hb3, g1, g2, g3, g4, rfl, hS, -⟩
  have HB3 := Lib.hid (HB2.out.trans (hb3.mono HB2.out.size))
  have HL2 := Lib.hid (HL.out pA pB w3 HB3.out (smV g1 g2) hS.mem)
  rw [la_one2] at HL2
  clear hb3 hS HS2 HB2
  go_wp2_with fail
  refine HL2.out.mono ?_
  rintro e w4 ⟨rfl, hb4⟩
  have HB4 := Lib.hid (HB3.out.trans (hb4.mono HB3.out.size))
  have HS3 := Lib.hid (HS.out w4)
  clear hb4 HL2 HB3
  go_wp2_with fail
  refine HS3.out.mono ?_
  rintro e w5 ⟨hb5, g1, g2, g3, g4, rfl, hS, -⟩
  have HB5 := Lib.hid (HB4.out.trans (hb5.mono HB4.out.size))
  have HL3 := Lib.hid (HL.out (1, 2, 0) pA w5 HB5.out (smV g1 g2) hS.mem)
  rw [la_one3] at HL3
  clear hb5 hS HS3 HB4
  go_wp2_with fail
  refine HL3.out.mono ?_
  rintro e w6 ⟨rfl, hb6⟩
  have HB6 := Lib.hid (HB5.out.trans (hb6.mono HB5.out.size))
  have HS4 := Lib.hid (HS.out w6)
  clear hb6 HL3 HB5
  go_wp2_with fail
  refine HS4.out.mono ?_
  rintro e w7 ⟨hb7, g1, g2, g3, g4, he, hS, hge, hne⟩
  replace he : e = .returned (.agg #[.string mzM, .slice none 0 0, .slice (some ⟨g1, 0, none⟩) 1 1, .slice (some ⟨g2, 0, none⟩) 2 2, .slice none 0 0, .slice none 0 0]) := he
  subst he
  obtain ⟨wa, hwa⟩ : ∃ wa, w7.alloc (.cells #[.string mzM, .slice none 0 0, .slice (some ⟨g1, 0, none⟩) 1 1, .slice (some ⟨g2, 0, none⟩) 2 2, .slice none 0 0, .slice none 0 0] 31) = wa := ⟨_, rfl⟩
  have hSa : SmM wa ⟨1, mzGo, mzE⟩ 0 g1 g2 g3 g4 := hwa ▸ hS.alloc _
  have hXa : Arr wa w7.heap.size 31 [.string mzM, .slice none 0 0, .slice (some ⟨g1, 0, none⟩) 1 1, .slice (some ⟨g2, 0, none⟩) 2 2, .slice none 0 0, .slice none 0 0] := hwa ▸ Arr.new w7 _ _
  have hba : Below w6.heap.size w6 wa := hb7.trans (hwa ▸ (Below.refl _ _).alloc hb7.size _)
  have l1 := hS.ev.lt
  have l2 := hS.st.lt
  have l3 := hS.a.lt
  have l4 := hS.b.lt
  have lw := hb7.size
  obtain ⟨n1, n2, n3, n4, n5, n6⟩ := hne
  obtain ⟨m1, m2, m3, m4⟩ := hge
  have x3 := hXa.cell (j := 3) (by simp)
  simp only [List.getElem_cons_zero, List.getElem_cons_succ] at x3
  have t2 := hSa.st.cell (j := 2) (by simp)
  simp only [List.getElem_cons_zero, List.getElem_cons_succ] at t2
  have s0 := hSa.a.cell (j := 0) (by simp)
  have f0 := hSa.a.frozen 0
  have s1 := hSa.a.cell (j := 1) (by simp)
  have f1 := hSa.a.frozen 1
  have s2 := hSa.a.cell (j := 2) (by simp)
  have f2 := hSa.a.frozen 2
  simp only [List.getElem_cons_zero, List.getElem_cons_succ] at s0 s1 s2
  obtain ⟨wb7, hwb⟩ : ∃ wb, (((wa.setCell ⟨g3, 0, none⟩ (.int .u8 2)).setCell ⟨g3, 1, none⟩ (.string ⟨#[98]⟩)).setCell ⟨g3, 2, none⟩ (.string ⟨#[]⟩)) = wb := ⟨_, rfl⟩
  have hbx : BoxOf wb7 w7.heap.size smLoop := ⟨⟨2, mzB, mzE⟩, 0, mzM, g1, g2, g3, g4, rfl, hwb ▸ (((hXa.far (by show w7.heap.size ≠ g3; omega) (.int .u8 2)).far (by show w7.heap.size ≠ g3; omega) (.string ⟨#[98]⟩)).far (by show w7.heap.size ≠ g3; omega) (.string ⟨#[]⟩)), hwb ▸ ⟨(((hSa.ev.far (by show g1 ≠ g3; omega) (.int .u8 2)).far (by show g1 ≠ g3; omega) (.string ⟨#[98]⟩)).far (by show g1 ≠ g3; omega) (.string ⟨#[]⟩)), (((hSa.st.far (by show g2 ≠ g3; omega) (.int .u8 2)).far (by show g2 ≠ g3; omega) (.string ⟨#[98]⟩)).far (by show g2 ≠ g3; omega) (.string ⟨#[]⟩)), (((hSa.a.set 0 (.int .u8 2)).set 1 (.string ⟨#[98]⟩)).set 2 (.string ⟨#[]⟩)), (((hSa.b.far (by show g4 ≠ g3; omega) (.int .u8 2)).far (by show g4 ≠ g3; omega) (.string ⟨#[98]⟩)).far (by show g4 ≠ g3; omega) (.string ⟨#[]⟩))⟩⟩
  have hbb : Below w6.heap.size w6 wb7 := hwb ▸ (below_put (below_put (below_put hba (.int .u8 2) (by show w6.heap.size ≤ g3; omega)) (.string ⟨#[98]⟩) (by show w6.heap.size ≤ g3; omega)) (.string ⟨#[]⟩) (by show w6.heap.size ≤ g3; omega))
  have HBX7 := Lib.hid hbx
  have HBB7 := Lib.hid hbb
  have HB7 := Lib.hid (HB6.out.trans (hbb.mono HB6.out.size))
  have HWA := Lib.hid hwa
  have HWB := Lib.hid hwb
  have HS7 := Lib.hid (HS.out wb7)
  clear HS4 hb7 hwa hwb hbx hbb hSa hXa hba hS l1 l2 l3 l4 lw n1 n2 n3 n4 n5 n6 m1 m2 m3 m4
  go_upto_region 6 with fail
  rw [HWA.out]
  go_upto_region 7 with fail
  rw [HWB.out]
  clear HWA HWB x3 t2 s0 f0 s1 f1 s2 f2
  go_wp2_with fail
  refine HS7.out.mono ?_
  rintro e w8 ⟨hb8, g1, g2, g3, g4, he, hS, hge, hne⟩
  replace he : e = .returned (.agg #[.string mzM, .slice none 0 0, .slice (some ⟨g1, 0, none⟩) 1 1, .slice (some ⟨g2, 0, none⟩) 2 2, .slice none 0 0, .slice none 0 0]) := he
  subst he
  obtain ⟨wa, hwa⟩ : ∃ wa, w8.alloc (.cells #[.string mzM, .slice none 0 0, .slice (some ⟨g1, 0, none⟩) 1 1, .slice (some ⟨g2, 0, none⟩) 2 2, .slice none 0 0, .slice none 0 0] 31) = wa := ⟨_, rfl⟩
  have hSa : SmM wa ⟨1, mzGo, mzE⟩ 0 g1 g2 g3 g4 := hwa ▸ hS.alloc _
  have hXa : Arr wa w8.heap.size 31 [.string mzM, .slice none 0 0, .slice (some ⟨g1, 0, none⟩) 1 1, .slice (some ⟨g2, 0, none⟩) 2 2, .slice none 0 0, .slice none 0 0] := hwa ▸ Arr.new w8 _ _
  have hba : Below wb7.heap.size wb7 wa := hb8.trans (hwa ▸ (Below.refl _ _).alloc hb8.size _)
  have l1 := hS.ev.lt
  have l2 := hS.st.lt
  have l3 := hS.a.lt
  have l4 := hS.b.lt
  have lw := hb8.size
  obtain ⟨n1, n2, n3, n4, n5, n6⟩ := hne
  obtain ⟨m1, m2, m3, m4⟩ := hge
  have x3 := hXa.cell (j := 3) (by simp)
  simp only [List.getElem_cons_zero, List.getElem_cons_succ] at x3
  have s0 := hSa.st.cell (j := 8) (by simp)
  have f0 := hSa.st.frozen 8
  simp only [List.getElem_cons_zero, List.getElem_cons_succ] at s0
  obtain ⟨wb8, hwb⟩ : ∃ wb, (wa.setCell ⟨g2, 8, none⟩ (.int .i64 1)) = wb := ⟨_, rfl⟩
  have hbx : BoxOf wb8 w8.heap.size smIn := ⟨⟨1, mzGo, mzE⟩, 1, mzM, g1, g2, g3, g4, rfl, hwb ▸ (hXa.far (by show w8.heap.size ≠ g2; omega) (.int .i64 1)), hwb ▸ ⟨(hSa.ev.far (by show g1 ≠ g2; omega) (.int .i64 1)), (hSa.st.set 8 (.int .i64 1)), (hSa.a.far (by show g3 ≠ g2; omega) (.int .i64 1)), (hSa.b.far (by show g4 ≠ g2; omega) (.int .i64 1))⟩⟩
  have hbb : Below wb7.heap.size wb7 wb8 := hwb ▸ (below_put hba (.int .i64 1) (by show wb7.heap.size ≤ g2; omega))
  have HBX8 := Lib.hid hbx
  have HBB8 := Lib.hid hbb
  have HB8 := Lib.hid (HB7.out.trans (hbb.mono HB7.out.size))
  have HWA := Lib.hid hwa
  have HWB := Lib.hid hwb
  have HS8 := Lib.hid (HS.out wb8)
  clear HS7 hb8 hwa hwb hbx hbb hSa hXa hba hS l1 l2 l3 l4 lw n1 n2 n3 n4 n5 n6 m1 m2 m3 m4
  go_upto_region 8 with fail
  rw [HWA.out]
  go_upto_region 9 with fail
  rw [HWB.out]
  clear HWA HWB x3 s0 f0
  go_wp2_with fail
  refine HS8.out.mono ?_
  rintro e w9 ⟨hb9, g1, g2, g3, g4, he, hS, hge, hne⟩
  replace he : e = .returned (.agg #[.string mzM, .slice none 0 0, .slice (some ⟨g1, 0, none⟩) 1 1, .slice (some ⟨g2, 0, none⟩) 2 2, .slice none 0 0, .slice none 0 0]) := he
  subst he
  obtain ⟨wa, hwa⟩ : ∃ wa, w9.alloc (.cells #[.string mzM, .slice none 0 0, .slice (some ⟨g1, 0, none⟩) 1 1, .slice (some ⟨g2, 0, none⟩) 2 2, .slice none 0 0, .slice none 0 0] 31) = wa := ⟨_, rfl⟩
  have hSa : SmM wa ⟨1, mzGo, mzE⟩ 0 g1 g2 g3 g4 := hwa ▸ hS.alloc _
  have hXa : Arr wa w9.heap.size 31 [.string mzM, .slice none 0 0, .slice (some ⟨g1, 0, none⟩) 1 1, .slice (some ⟨g2, 0, none⟩) 2 2, .slice none 0 0, .slice none 0 0] := hwa ▸ Arr.new w9 _ _
  have hba : Below wb8.heap.size wb8 wa := hb9.trans (hwa ▸ (Below.refl _ _).alloc hb9.size _)
  have l1 := hS.ev.lt
  have l2 := hS.st.lt
  have l3 := hS.a.lt
  have l4 := hS.b.lt
  have lw := hb9.size
  obtain ⟨n1, n2, n3, n4, n5, n6⟩ := hne
  obtain ⟨m1, m2, m3, m4⟩ := hge
  have x3 := hXa.cell (j := 3) (by simp)
  simp only [List.getElem_cons_zero, List.getElem_cons_succ] at x3
  have t2 := hSa.st.cell (j := 2) (by simp)
  simp only [List.getElem_cons_zero, List.getElem_cons_succ] at t2
  have s0 := hSa.a.cell (j := 2) (by simp)
  have f0 := hSa.a.frozen 2
  simp only [List.getElem_cons_zero, List.getElem_cons_succ] at s0
  obtain ⟨wb9, hwb⟩ : ∃ wb, (wa.setCell ⟨g3, 2, none⟩ (.string ⟨#[120]⟩)) = wb := ⟨_, rfl⟩
  have hbx : BoxOf wb9 w9.heap.size smGd := ⟨⟨1, mzGo, mzX⟩, 0, mzM, g1, g2, g3, g4, rfl, hwb ▸ (hXa.far (by show w9.heap.size ≠ g3; omega) (.string ⟨#[120]⟩)), hwb ▸ ⟨(hSa.ev.far (by show g1 ≠ g3; omega) (.string ⟨#[120]⟩)), (hSa.st.far (by show g2 ≠ g3; omega) (.string ⟨#[120]⟩)), (hSa.a.set 2 (.string ⟨#[120]⟩)), (hSa.b.far (by show g4 ≠ g3; omega) (.string ⟨#[120]⟩))⟩⟩
  have hbb : Below wb8.heap.size wb8 wb9 := hwb ▸ (below_put hba (.string ⟨#[120]⟩) (by show wb8.heap.size ≤ g3; omega))
  have HBX9 := Lib.hid hbx
  have HBB9 := Lib.hid hbb
  have HB9 := Lib.hid (HB8.out.trans (hbb.mono HB8.out.size))
  have HWA := Lib.hid hwa
  have HWB := Lib.hid hwb
  have HS9 := Lib.hid (HS.out wb9)
  clear HS8 hb9 hwa hwb hbx hbb hSa hXa hba hS l1 l2 l3 l4 lw n1 n2 n3 n4 n5 n6 m1 m2 m3 m4
  go_upto_region 10 with fail
  rw [HWA.out]
  go_upto_region 11 with fail
  rw [HWB.out]
  clear HWA HWB x3 t2 s0 f0
  go_wp2_with fail
  refine HS9.out.mono ?_
  rintro e w10 ⟨hb10, g1, g2, g3, g4, he, hS, hge, hne⟩
  replace he : e = .returned (.agg #[.string mzM, .slice none 0 0, .slice (some ⟨g1, 0, none⟩) 1 1, .slice (some ⟨g2, 0, none⟩) 2 2, .slice none 0 0, .slice none 0 0]) := he
  subst he
  obtain ⟨wa, hwa⟩ : ∃ wa, w10.alloc (.cells #[.string mzM, .slice none 0 0, .slice (some ⟨g1, 0, none⟩) 1 1, .slice (some ⟨g2, 0, none⟩) 2 2, .slice none 0 0, .slice none 0 0] 31) = wa := ⟨_, rfl⟩
  have hSa : SmM wa ⟨1, mzGo, mzE⟩ 0 g1 g2 g3 g4 := hwa ▸ hS.alloc _
  have hXa : Arr wa w10.heap.size 31 [.string mzM, .slice none 0 0, .slice (some ⟨g1, 0, none⟩) 1 1, .slice (some ⟨g2, 0, none⟩) 2 2, .slice none 0 0, .slice none 0 0] := hwa ▸ Arr.new w10 _ _
  have hba : Below wb9.heap.size wb9 wa := hb10.trans (hwa ▸ (Below.refl _ _).alloc hb10.size _)
  have l1 := hS.ev.lt
  have l2 := hS.st.lt
  have l3 := hS.a.lt
  have l4 := hS.b.lt
  have lw := hb10.size
  obtain ⟨n1, n2, n3, n4, n5, n6⟩ := hne
  obtain ⟨m1, m2, m3, m4⟩ := hge
  have s0 := hXa.cell (j := 0) (by simp)
  have f0 := hXa.frozen 0
  simp only [List.getElem_cons_zero] at s0
  obtain ⟨wb10, hwb⟩ : ∃ wb, (wa.setCell ⟨w10.heap.size, 0, none⟩ (.string ⟨#[111, 112, 101, 110]⟩)) = wb := ⟨_, rfl⟩
  have hbx : BoxOf wb10 w10.heap.size smNm := ⟨⟨1, mzGo, mzE⟩, 0, mzOp, g1, g2, g3, g4, rfl, hwb ▸ (hXa.set 0 (.string ⟨#[111, 112, 101, 110]⟩)), hwb ▸ ⟨(hSa.ev.far (by show g1 ≠ w10.heap.size; omega) (.string ⟨#[111, 112, 101, 110]⟩)), (hSa.st.far (by show g2 ≠ w10.heap.size; omega) (.string ⟨#[111, 112, 101, 110]⟩)), (hSa.a.far (by show g3 ≠ w10.heap.size; omega) (.string ⟨#[111, 112, 101, 110]⟩)), (hSa.b.far (by show g4 ≠ w10.heap.size; omega) (.string ⟨#[111, 112, 101, 110]⟩))⟩⟩
  have hbb : Below wb9.heap.size wb9 wb10 := hwb ▸ (below_put hba (.string ⟨#[111, 112, 101, 110]⟩) (by show wb9.heap.size ≤ w10.heap.size; omega))
  have HBX10 := Lib.hid hbx
  have HBB10 := Lib.hid hbb
  have HB10 := Lib.hid (HB9.out.trans (hbb.mono HB9.out.size))
  have HWA := Lib.hid hwa
  have HWB := Lib.hid hwb
  have HS10 := Lib.hid (HS.out wb10)
  clear HS9 hb10 hwa hwb hbx hbb hSa hXa hba hS l1 l2 l3 l4 lw n1 n2 n3 n4 n5 n6 m1 m2 m3 m4
  go_upto_region 12 with fail
  rw [HWA.out]
  go_upto_region 13 with fail
  rw [HWB.out]
  clear HWA HWB s0 f0
  have HA := Lib.hid (alive_walk wb10 (HV.out wb10 HB10.out))
  have h9 := HBB10.out
  have h8 := HBB9.out.trans (h9.mono HBB9.out.size)
  have h7 := HBB8.out.trans (h8.mono HBB8.out.size)
  obtain ⟨a70, a71, a72, a73, a74, a75, y70, y71, y72, y73, y74, y75, hc7⟩ := (HBX7.out.keep h7).check
  have HY7 := Lib.hid (And.intro y70 (And.intro y71 (And.intro y72 (And.intro y73 (And.intro y74 y75)))))
  have HC7 := Lib.hid hc7
  obtain ⟨a80, a81, a82, a83, a84, a85, y80, y81, y82, y83, y84, y85, hc8⟩ := (HBX8.out.keep h8).check
  have HY8 := Lib.hid (And.intro y80 (And.intro y81 (And.intro y82 (And.intro y83 (And.intro y84 y85)))))
  have HC8 := Lib.hid hc8
  obtain ⟨a90, a91, a92, a93, a94, a95, y90, y91, y92, y93, y94, y95, hc9⟩ := (HBX9.out.keep h9).check
  have HY9 := Lib.hid (And.intro y90 (And.intro y91 (And.intro y92 (And.intro y93 (And.intro y94 y95)))))
  have HC9 := Lib.hid hc9
  obtain ⟨a100, a101, a102, a103, a104, a105, y100, y101, y102, y103, y104, y105, hc10⟩ := HBX10.out.check
  have HY10 := Lib.hid (And.intro y100 (And.intro y101 (And.intro y102 (And.intro y103 (And.intro y104 y105)))))
  have HC10 := Lib.hid hc10
  clear h7 h8 h9 hc7 y70 y71 y72 y73 y74 y75 hc8 y80 y81 y82 y83 y84 y85 hc9 y90 y91 y92 y93 y94 y95 hc10 y100 y101 y102 y103 y104 y105 HBX7 HBX8 HBX9 HBX10 HS10
  go_wp2_with fail
  refine HA.out.mono ?_
  rintro e v0 ⟨rfl, hb0⟩
  have HE0 := Lib.hid hb0
  have HS0 := Lib.hid (HS.out v0)
  clear hb0 HA
  go_wp2_with fail
  refine HS0.out.mono ?_
  rintro e v1 ⟨hb1, g1, g2, g3, g4, rfl, hS, -⟩
  have HE1 := Lib.hid (HE0.out.trans (hb1.mono HE0.out.size))
  have HK := Lib.hid (check_walk smOne (smV g1 g2) v1 (smD_sml _ _ _) (smD_txt _ _ _) hS.mem (HV.out v1 (HB10.out.trans (HE1.out.mono HB10.out.size))))
  rw [ck_one] at HK
  clear hb1 HS0 hS HE0
  go_wp2_with fail
  refine HK.out.mono ?_
  rintro e v2 ⟨rfl, hb2⟩
  have HE2 := Lib.hid (HE1.out.trans (hb2.mono HE1.out.size))
  clear hb2 HK HE1
  have HK := Lib.hid (HC7.out v2 HE2.out (HV.out v2 (HB10.out.trans (HE2.out.mono HB10.out.size))))
  rw [ck_loop] at HK
  obtain ⟨u0, u1, u2, u3, u4, u5⟩ := HY7.out
  have z0 := cellBelow2 HE2.out u0
  have z1 := cellBelow2 HE2.out u1
  have z2 := cellBelow2 HE2.out u2
  have z3 := cellBelow2 HE2.out u3
  have z4 := cellBelow2 HE2.out u4
  have z5 := cellBelow2 HE2.out u5
  clear u0 u1 u2 u3 u4 u5
  go_wp2_with fail
  refine HK.out.mono ?_
  rintro e v3 ⟨rfl, hbn⟩
  have HE3 := Lib.hid (HE2.out.trans (hbn.mono HE2.out.size))
  clear hbn HK z0 z1 z2 z3 z4 z5
  have HK := Lib.hid (HC8.out v3 HE3.out (HV.out v3 (HB10.out.trans (HE3.out.mono HB10.out.size))))
  rw [ck_in] at HK
  obtain ⟨u0, u1, u2, u3, u4, u5⟩ := HY8.out
  have z0 := cellBelow2 HE3.out u0
  have z1 := cellBelow2 HE3.out u1
  have z2 := cellBelow2 HE3.out u2
  have z3 := cellBelow2 HE3.out u3
  have z4 := cellBelow2 HE3.out u4
  have z5 := cellBelow2 HE3.out u5
  clear u0 u1 u2 u3 u4 u5
  go_wp2_with fail
  refine HK.out.mono ?_
  rintro e v4 ⟨rfl, hbn⟩
  have HE4 := Lib.hid (HE3.out.trans (hbn.mono HE3.out.size))
  clear hbn HK z0 z1 z2 z3 z4 z5
  have HK := Lib.hid (HC9.out v4 HE4.out (HV.out v4 (HB10.out.trans (HE4.out.mono HB10.out.size))))
  rw [ck_gd] at HK
  obtain ⟨u0, u1, u2, u3, u4, u5⟩ := HY9.out
  have z0 := cellBelow2 HE4.out u0
  have z1 := cellBelow2 HE4.out u1
  have z2 := cellBelow2 HE4.out u2
  have z3 := cellBelow2 HE4.out u3
  have z4 := cellBelow2 HE4.out u4
  have z5 := cellBelow2 HE4.out u5
  clear u0 u1 u2 u3 u4 u5
  go_wp2_with fail
  refine HK.out.mono ?_
  rintro e v5 ⟨rfl, hbn⟩
  have HE5 := Lib.hid (HE4.out.trans (hbn.mono HE4.out.size))
  clear hbn HK z0 z1 z2 z3 z4 z5
  have HK := Lib.hid (HC10.out v5 HE5.out (HV.out v5 (HB10.out.trans (HE5.out.mono HB10.out.size))))
  rw [ck_nm] at HK
  obtain ⟨u0, u1, u2, u3, u4, u5⟩ := HY10.out
  have z0 := cellBelow2 HE5.out u0
  have z1 := cellBelow2 HE5.out u1
  have z2 := cellBelow2 HE5.out u2
  have z3 := cellBelow2 HE5.out u3
  have z4 := cellBelow2 HE5.out u4
  have z5 := cellBelow2 HE5.out u5
  clear u0 u1 u2 u3 u4 u5
  go_wp2_with fail
  refine HK.out.mono ?_
  rintro e v6 ⟨rfl, hbn⟩
  have HE6 := Lib.hid (HE5.out.trans (hbn.mono HE5.out.size))
  clear hbn HK z0 z1 z2 z3 z4 z5
  have HEND := Lib.hid (HB10.out.trans (HE6.out.mono HB10.out.size))
  go_wp2_with fail
  go_ret
  exact ⟨rfl, HEND.out⟩
end Go.Proofs.YtfbbkmdhnkmonaaGreatDoor
