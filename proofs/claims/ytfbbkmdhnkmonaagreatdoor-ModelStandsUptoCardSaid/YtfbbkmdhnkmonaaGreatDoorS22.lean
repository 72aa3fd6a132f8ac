/- package guard: guard, side, sum, product over row. -/
import Derived.Test.YtfbbkmdhnkmonaaGreatDoorS21
import Derived.Carry
namespace Go.Proofs.YtfbbkmdhnkmonaaGreatDoor
open Go.RowKit

/-- a result laid into the variable that is handed back -/
theorem store4 {R : Nat} {w W : World} {s : ByteArray} {st : GSt} {g : GT} {b : Nat} {X : Nat → Prop} {c0 c1 c2 c3 d0 d1 d2 d3 : Value} {cs : List Value} (hk : KeepR R w W) (hb : w.heap.size ≤ b) (hR : R ≠ b) (hr : RdIs R W s st) (hX : X b) (hx : GIs X W g cs)
    (ha : Arr W b 80 [c0, c1, c2, c3]) :
    KeepR R w ((((W.setCell ⟨b, 0, none⟩ d0).setCell ⟨b, 1, none⟩ d1).setCell ⟨b, 2, none⟩ d2).setCell ⟨b, 3, none⟩ d3) ∧ RdIs R ((((W.setCell ⟨b, 0, none⟩ d0).setCell ⟨b, 1, none⟩ d1).setCell ⟨b, 2, none⟩ d2).setCell ⟨b, 3, none⟩ d3) s st ∧
      GIs X ((((W.setCell ⟨b, 0, none⟩ d0).setCell ⟨b, 1, none⟩ d1).setCell ⟨b, 2, none⟩ d2).setCell ⟨b, 3, none⟩ d3) g cs ∧
      Arr ((((W.setCell ⟨b, 0, none⟩ d0).setCell ⟨b, 1, none⟩ d1).setCell ⟨b, 2, none⟩ d2).setCell ⟨b, 3, none⟩ d3) b 80 [d0, d1, d2, d3] := by
  have hK : ∀ {W : World} (j : Nat) (v : Value), KeepR R w W → KeepR R w (W.setCell ⟨b, j, none⟩ v) := fun j v h => h.setNew (p := ⟨b, j, none⟩) hb v
  have hF : ∀ {W : World} (j : Nat) (v : Value), RdIs R W s st → RdIs R (W.setCell ⟨b, j, none⟩ v) s st := fun j v h => Arr.far h (a := ⟨b, j, none⟩) hR v
  have hG : ∀ {W : World} (j : Nat) (v : Value), GIs X W g cs → GIs X (W.setCell ⟨b, j, none⟩ v) g cs := fun j v h => h.setCell (p := ⟨b, j, none⟩) hX v
  exact ⟨hK 3 _ (hK 2 _ (hK 1 _ (hK 0 _ hk))), hF 3 _ (hF 2 _ (hF 1 _ (hF 0 _ hr))), hG 3 _ (hG 2 _ (hG 1 _ (hG 0 _ hx))), (((ha.set 0 d0).set 1 d1).set 2 d2).set 3 d3⟩

set_option maxHeartbeats 4000000 in
set_option maxRecDepth 100000 in
theorem guard_sub {R : Nat} {s : ByteArray} {N : Nat} (hs : s.size ≤ 17000) (hsub : SubC R s N 118 .side) : SubC R s N 80 .guard := by
  intro st w hM hg h hv
  have hRw : R < w.heap.size := Arr.lt h
  obtain ⟨w2, hu, hM2, hg2, hz2⟩ := (MapIs.made (w.alloc (.cells #[.int .u8 0, .int .i64 0, .string ⟨#[]⟩, .slice none 0 0] 80))).update Tryz.underlying178 Tryz.underlying9 (k := orS) (by decide) (.int .u8 10)
  rw [size_alloc] at hu hM2 hg2 hz2
  have hb1 : Below w.heap.size w ((w.alloc (.cells #[.int .u8 0, .int .i64 0, .string ⟨#[]⟩, .slice none 0 0] 80)).alloc (.map #[] 0)) := ((Below.refl _ _).alloc (Nat.le_refl _) _).alloc (by rw [size_alloc]; omega) _
  have hb2 : Below w.heap.size w w2 := hb1.grown hg2 (by rw [size_alloc, size_alloc]; omega) (fun j hj => by cases hj; omega)
  have hA2 : Arr w2 w.heap.size 80 zeroG := ⟨(hg2.block _ (by rw [size_alloc, size_alloc]; omega) (fun e => by have := Option.some.inj e; omega)).trans (Arr.alloc (Arr.new w zeroG 80) (.map #[] 0)).heap⟩
  have HB2 := Lib.hid hb2
  have HA2 := Lib.hid hA2
  have HRW := Lib.hid (row_walk (F := 118) (kinds := kOr) (ents := (putM [] orS (.int .u8 10))) hs (enters_of Tryz.func118 (by kernel_rfl) rfl) hsub (fun x => by
    by_cases hx0 : x = orS
    · subst hx0; rfl
    simp [putM, getM, kOr, hx0, Ne.symm hx0]) (fun x k hk => by
    unfold kOr at hk
    split at hk
    · rename_i hx; subst hx; decide
    cases hk) st w2 hM hg (h.below hb2 hRw) (hv.keep (.of hb2)) hM2 (by omega))
  clear hb1 hb2 hA2 hM2 hg2 hsub
  have hmm := @run_makeMap Tryz.prog
  go_enter Tryz.func80, Tryz.ntmps80
  go_wp2_with fail
  refine HRW.out.mono ?_
  rintro e w3 ⟨hk3, fu, r3, hr3, h3⟩
  have HK3 := Lib.hid ((KeepR.of HB2.out).trans hk3)
  clear HRW
  rcases r3 with a | gs
  · simp only at h3
    subst h3
    exact ⟨rfl, HK3.out, fu + 1, .error a, by show pars s (fu + 1) .guard st = _; rw [pars]; exact hr3, rfl⟩
  obtain ⟨g3, st3⟩ := gs
  obtain ⟨⟨cs3, rfl, hgi3⟩, hr4, hg4, hpos4⟩ := h3
  have HA3 := Lib.hid (HA2.out.keepR hk3 (by omega))
  have HX3 := Lib.hid hgi3
  have HR4 := Lib.hid hr4
  obtain ⟨q1, m1, z1, b1, l2, c2, rfl⟩ := hgi3.four
  have o0 := HA3.out.cell (j := 0) (by simp)
  have o1 := HA3.out.cell (j := 1) (by simp)
  have o2 := HA3.out.cell (j := 2) (by simp)
  have o3 := HA3.out.cell (j := 3) (by simp)
  have f0 := HA3.out.frozen 0
  have f1 := HA3.out.frozen 1
  have f2 := HA3.out.frozen 2
  have f3 := HA3.out.frozen 3
  simp only [List.getElem_cons_zero, List.getElem_cons_succ] at o0 o1 o2 o3
  have hsz2 : w.heap.size < w2.heap.size := HA2.out.lt
  clear hk3 hgi3 hr4
  go_wp2_with fail
  obtain ⟨k1, k2, k3, k4⟩ := store4 HK3.out (Nat.le_refl _) (by omega) HR4.out (X := fun k => k < w2.heap.size) hsz2 HX3.out HA3.out
  refine ret_guard (fn := Tryz.f80) rfl (g := w.heap.size) (cs := [.int .u8 q1, .int .i64 m1, .string z1, .slice b1 l2 c2]) rfl rfl rfl k4 ?_
  exact ⟨k1, fu + 1, .ok (g3, st3), by show pars s (fu + 1) .guard st = _; rw [pars]; exact hr3, ⟨_, rfl, k3.mono (fun k _ h => Nat.lt_trans h hsz2)⟩, k2, hg4, hpos4⟩
set_option maxHeartbeats 4000000 in
set_option maxRecDepth 100000 in
theorem side_sub {R : Nat} {s : ByteArray} {N : Nat} (hs : s.size ≤ 17000) (hsub : SubC R s N 145 .part) : SubC R s N 118 .side := by
  intro st w hM hg h hv
  have hRw : R < w.heap.size := Arr.lt h
  obtain ⟨w2, hu, hM2, hg2, hz2⟩ := (MapIs.made (w.alloc (.cells #[.int .u8 0, .int .i64 0, .string ⟨#[]⟩, .slice none 0 0] 80))).update Tryz.underlying178 Tryz.underlying9 (k := andS) (by decide) (.int .u8 9)
  rw [size_alloc] at hu hM2 hg2 hz2
  have hb1 : Below w.heap.size w ((w.alloc (.cells #[.int .u8 0, .int .i64 0, .string ⟨#[]⟩, .slice none 0 0] 80)).alloc (.map #[] 0)) := ((Below.refl _ _).alloc (Nat.le_refl _) _).alloc (by rw [size_alloc]; omega) _
  have hb2 : Below w.heap.size w w2 := hb1.grown hg2 (by rw [size_alloc, size_alloc]; omega) (fun j hj => by cases hj; omega)
  have hA2 : Arr w2 w.heap.size 80 zeroG := ⟨(hg2.block _ (by rw [size_alloc, size_alloc]; omega) (fun e => by have := Option.some.inj e; omega)).trans (Arr.alloc (Arr.new w zeroG 80) (.map #[] 0)).heap⟩
  have HB2 := Lib.hid hb2
  have HA2 := Lib.hid hA2
  have HRW := Lib.hid (row_walk (F := 145) (kinds := kAnd) (ents := (putM [] andS (.int .u8 9))) hs (enters_of Tryz.func145 (by kernel_rfl) rfl) hsub (fun x => by
    by_cases hx0 : x = andS
    · subst hx0; rfl
    simp [putM, getM, kAnd, hx0, Ne.symm hx0]) (fun x k hk => by
    unfold kAnd at hk
    split at hk
    · rename_i hx; subst hx; decide
    cases hk) st w2 hM hg (h.below hb2 hRw) (hv.keep (.of hb2)) hM2 (by omega))
  clear hb1 hb2 hA2 hM2 hg2 hsub
  have hmm := @run_makeMap Tryz.prog
  go_enter Tryz.func118, Tryz.ntmps118
  go_wp2_with fail
  refine HRW.out.mono ?_
  rintro e w3 ⟨hk3, fu, r3, hr3, h3⟩
  have HK3 := Lib.hid ((KeepR.of HB2.out).trans hk3)
  clear HRW
  rcases r3 with a | gs
  · simp only at h3
    subst h3
    exact ⟨rfl, HK3.out, fu + 1, .error a, by show pars s (fu + 1) .side st = _; rw [pars]; exact hr3, rfl⟩
  obtain ⟨g3, st3⟩ := gs
  obtain ⟨⟨cs3, rfl, hgi3⟩, hr4, hg4, hpos4⟩ := h3
  have HA3 := Lib.hid (HA2.out.keepR hk3 (by omega))
  have HX3 := Lib.hid hgi3
  have HR4 := Lib.hid hr4
  obtain ⟨q1, m1, z1, b1, l2, c2, rfl⟩ := hgi3.four
  have o0 := HA3.out.cell (j := 0) (by simp)
  have o1 := HA3.out.cell (j := 1) (by simp)
  have o2 := HA3.out.cell (j := 2) (by simp)
  have o3 := HA3.out.cell (j := 3) (by simp)
  have f0 := HA3.out.frozen 0
  have f1 := HA3.out.frozen 1
  have f2 := HA3.out.frozen 2
  have f3 := HA3.out.frozen 3
  simp only [List.getElem_cons_zero, List.getElem_cons_succ] at o0 o1 o2 o3
  have hsz2 : w.heap.size < w2.heap.size := HA2.out.lt
  clear hk3 hgi3 hr4
  go_wp2_with fail
  obtain ⟨k1, k2, k3, k4⟩ := store4 HK3.out (Nat.le_refl _) (by omega) HR4.out (X := fun k => k < w2.heap.size) hsz2 HX3.out HA3.out
  refine ret_guard (fn := Tryz.f118) rfl (g := w.heap.size) (cs := [.int .u8 q1, .int .i64 m1, .string z1, .slice b1 l2 c2]) rfl rfl rfl k4 ?_
  exact ⟨k1, fu + 1, .ok (g3, st3), by show pars s (fu + 1) .side st = _; rw [pars]; exact hr3, ⟨_, rfl, k3.mono (fun k _ h => Nat.lt_trans h hsz2)⟩, k2, hg4, hpos4⟩
set_option maxHeartbeats 4000000 in
set_option maxRecDepth 100000 in
theorem sum_sub {R : Nat} {s : ByteArray} {N : Nat} (hs : s.size ≤ 17000) (hsub : SubC R s N 190 .product) : SubC R s N 174 .sum := by
  intro st w hM hg h hv
  have hRw : R < w.heap.size := Arr.lt h
  obtain ⟨w2, hu, hM2, hg2, hz2⟩ := (MapIs.made (w.alloc (.cells #[.int .u8 0, .int .i64 0, .string ⟨#[]⟩, .slice none 0 0] 80))).update Tryz.underlying178 Tryz.underlying9 (k := addS) (by decide) (.int .u8 13)
  rw [size_alloc] at hu hM2 hg2 hz2
  obtain ⟨w2', hu', hM2', hg2', hz2'⟩ := hM2.update Tryz.underlying178 Tryz.underlying9 (k := subS) (by decide) (.int .u8 14)
  have hb1 : Below w.heap.size w ((w.alloc (.cells #[.int .u8 0, .int .i64 0, .string ⟨#[]⟩, .slice none 0 0] 80)).alloc (.map #[] 0)) := ((Below.refl _ _).alloc (Nat.le_refl _) _).alloc (by rw [size_alloc]; omega) _
  have hb2 : Below w.heap.size w w2 := hb1.grown hg2 (by rw [size_alloc, size_alloc]; omega) (fun j hj => by cases hj; omega)
  have hA2 : Arr w2 w.heap.size 80 zeroG := ⟨(hg2.block _ (by rw [size_alloc, size_alloc]; omega) (fun e => by have := Option.some.inj e; omega)).trans (Arr.alloc (Arr.new w zeroG 80) (.map #[] 0)).heap⟩
  have hb2' : Below w.heap.size w w2' := hb2.grown hg2' (by have := hb2.size; omega) (fun j hj => by cases hj; omega)
  have hA2' : Arr w2' w.heap.size 80 zeroG := ⟨(hg2'.block _ hA2.lt (fun e => by have := Option.some.inj e; omega)).trans hA2.heap⟩
  have HB2 := Lib.hid hb2'
  have HA2 := Lib.hid hA2'
  have HRW := Lib.hid (row_walk (F := 190) (kinds := kSum) (ents := (putM (putM [] addS (.int .u8 13)) subS (.int .u8 14))) hs (enters_of Tryz.func190 (by kernel_rfl) rfl) hsub (fun x => by
    by_cases hx0 : x = addS
    · subst hx0; rfl
    by_cases hx1 : x = subS
    · subst hx1; rfl
    simp [putM, getM, kSum, hx0, Ne.symm hx0, hx1, Ne.symm hx1, show ¬ (addS : ByteArray) = subS by decide]) (fun x k hk => by
    unfold kSum at hk
    split at hk
    · rename_i hx; subst hx; decide
    split at hk
    · rename_i hx; subst hx; decide
    cases hk) st w2' hM hg (h.below hb2' hRw) (hv.keep (.of hb2')) hM2' (by omega))
  clear hb1 hb2 hA2 hM2 hg2 hsub hb2' hA2' hM2' hg2'
  have hmm := @run_makeMap Tryz.prog
  go_enter Tryz.func174, Tryz.ntmps174
  go_wp2_with fail
  refine HRW.out.mono ?_
  rintro e w3 ⟨hk3, fu, r3, hr3, h3⟩
  have HK3 := Lib.hid ((KeepR.of HB2.out).trans hk3)
  clear HRW
  rcases r3 with a | gs
  · simp only at h3
    subst h3
    exact ⟨rfl, HK3.out, fu + 1, .error a, by show pars s (fu + 1) .sum st = _; rw [pars]; exact hr3, rfl⟩
  obtain ⟨g3, st3⟩ := gs
  obtain ⟨⟨cs3, rfl, hgi3⟩, hr4, hg4, hpos4⟩ := h3
  have HA3 := Lib.hid (HA2.out.keepR hk3 (by omega))
  have HX3 := Lib.hid hgi3
  have HR4 := Lib.hid hr4
  obtain ⟨q1, m1, z1, b1, l2, c2, rfl⟩ := hgi3.four
  have o0 := HA3.out.cell (j := 0) (by simp)
  have o1 := HA3.out.cell (j := 1) (by simp)
  have o2 := HA3.out.cell (j := 2) (by simp)
  have o3 := HA3.out.cell (j := 3) (by simp)
  have f0 := HA3.out.frozen 0
  have f1 := HA3.out.frozen 1
  have f2 := HA3.out.frozen 2
  have f3 := HA3.out.frozen 3
  simp only [List.getElem_cons_zero, List.getElem_cons_succ] at o0 o1 o2 o3
  have hsz2 : w.heap.size < w2'.heap.size := HA2.out.lt
  clear hk3 hgi3 hr4
  go_wp2_with fail
  obtain ⟨k1, k2, k3, k4⟩ := store4 HK3.out (Nat.le_refl _) (by omega) HR4.out (X := fun k => k < w2'.heap.size) hsz2 HX3.out HA3.out
  refine ret_guard (fn := Tryz.f174) rfl (g := w.heap.size) (cs := [.int .u8 q1, .int .i64 m1, .string z1, .slice b1 l2 c2]) rfl rfl rfl k4 ?_
  exact ⟨k1, fu + 1, .ok (g3, st3), by show pars s (fu + 1) .sum st = _; rw [pars]; exact hr3, ⟨_, rfl, k3.mono (fun k _ h => Nat.lt_trans h hsz2)⟩, k2, hg4, hpos4⟩
set_option maxHeartbeats 4000000 in
set_option maxRecDepth 100000 in
theorem product_sub {R : Nat} {s : ByteArray} {N : Nat} (hs : s.size ≤ 17000) (hsub : SubC R s N 197 .atom) : SubC R s N 190 .product := by
  intro st w hM hg h hv
  have hRw : R < w.heap.size := Arr.lt h
  obtain ⟨w2, hu, hM2, hg2, hz2⟩ := (MapIs.made (w.alloc (.cells #[.int .u8 0, .int .i64 0, .string ⟨#[]⟩, .slice none 0 0] 80))).update Tryz.underlying178 Tryz.underlying9 (k := mulS) (by decide) (.int .u8 15)
  rw [size_alloc] at hu hM2 hg2 hz2
  have hb1 : Below w.heap.size w ((w.alloc (.cells #[.int .u8 0, .int .i64 0, .string ⟨#[]⟩, .slice none 0 0] 80)).alloc (.map #[] 0)) := ((Below.refl _ _).alloc (Nat.le_refl _) _).alloc (by rw [size_alloc]; omega) _
  have hb2 : Below w.heap.size w w2 := hb1.grown hg2 (by rw [size_alloc, size_alloc]; omega) (fun j hj => by cases hj; omega)
  have hA2 : Arr w2 w.heap.size 80 zeroG := ⟨(hg2.block _ (by rw [size_alloc, size_alloc]; omega) (fun e => by have := Option.some.inj e; omega)).trans (Arr.alloc (Arr.new w zeroG 80) (.map #[] 0)).heap⟩
  have HB2 := Lib.hid hb2
  have HA2 := Lib.hid hA2
  have HRW := Lib.hid (row_walk (F := 197) (kinds := kMul) (ents := (putM [] mulS (.int .u8 15))) hs (enters_of Tryz.func197 (by kernel_rfl) rfl) hsub (fun x => by
    by_cases hx0 : x = mulS
    · subst hx0; rfl
    simp [putM, getM, kMul, hx0, Ne.symm hx0]) (fun x k hk => by
    unfold kMul at hk
    split at hk
    · rename_i hx; subst hx; decide
    cases hk) st w2 hM hg (h.below hb2 hRw) (hv.keep (.of hb2)) hM2 (by omega))
  clear hb1 hb2 hA2 hM2 hg2 hsub
  have hmm := @run_makeMap Tryz.prog
  go_enter Tryz.func190, Tryz.ntmps190
  go_wp2_with fail
  refine HRW.out.mono ?_
  rintro e w3 ⟨hk3, fu, r3, hr3, h3⟩
  have HK3 := Lib.hid ((KeepR.of HB2.out).trans hk3)
  clear HRW
  rcases r3 with a | gs
  · simp only at h3
    subst h3
    exact ⟨rfl, HK3.out, fu + 1, .error a, by show pars s (fu + 1) .product st = _; rw [pars]; exact hr3, rfl⟩
  obtain ⟨g3, st3⟩ := gs
  obtain ⟨⟨cs3, rfl, hgi3⟩, hr4, hg4, hpos4⟩ := h3
  have HA3 := Lib.hid (HA2.out.keepR hk3 (by omega))
  have HX3 := Lib.hid hgi3
  have HR4 := Lib.hid hr4
  obtain ⟨q1, m1, z1, b1, l2, c2, rfl⟩ := hgi3.four
  have o0 := HA3.out.cell (j := 0) (by simp)
  have o1 := HA3.out.cell (j := 1) (by simp)
  have o2 := HA3.out.cell (j := 2) (by simp)
  have o3 := HA3.out.cell (j := 3) (by simp)
  have f0 := HA3.out.frozen 0
  have f1 := HA3.out.frozen 1
  have f2 := HA3.out.frozen 2
  have f3 := HA3.out.frozen 3
  simp only [List.getElem_cons_zero, List.getElem_cons_succ] at o0 o1 o2 o3
  have hsz2 : w.heap.size < w2.heap.size := HA2.out.lt
  clear hk3 hgi3 hr4
  go_wp2_with fail
  obtain ⟨k1, k2, k3, k4⟩ := store4 HK3.out (Nat.le_refl _) (by omega) HR4.out (X := fun k => k < w2.heap.size) hsz2 HX3.out HA3.out
  refine ret_guard (fn := Tryz.f190) rfl (g := w.heap.size) (cs := [.int .u8 q1, .int .i64 m1, .string z1, .slice b1 l2 c2]) rfl rfl rfl k4 ?_
  exact ⟨k1, fu + 1, .ok (g3, st3), by show pars s (fu + 1) .product st = _; rw [pars]; exact hr3, ⟨_, rfl, k3.mono (fun k _ h => Nat.lt_trans h hsz2)⟩, k2, hg4, hpos4⟩
end Go.Proofs.YtfbbkmdhnkmonaaGreatDoor
