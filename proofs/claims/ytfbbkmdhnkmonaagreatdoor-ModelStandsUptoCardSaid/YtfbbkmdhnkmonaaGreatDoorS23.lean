/- package guard: part. -/
import Derived.Test.YtfbbkmdhnkmonaaGreatDoorS22
namespace Go.Proofs.YtfbbkmdhnkmonaaGreatDoor
open Go.RowKit

abbrev relE : Ents := putM (putM [] eqS (.int .u8 11)) ltS (.int .u8 12)
theorem relE_eq : relE = [(eqS, .int .u8 11), (ltS, .int .u8 12)] := by
  unfold relE
  simp [putM, show ¬ (eqS : ByteArray) = ltS by decide]
def seenI (rb : Nat) (w : World) : Nat := match w.heap[rb]? with
  | some (.mapIter _ _ seen _) => seen.size
  | _ => 0
theorem seenI_eq {w : World} {rb mb n : Nat} {seen : List Nat} (h : IterIs w rb mb n seen) : seenI rb w = seen.length := by
  rw [seenI, h.heap]; simp
theorem seen_lt {seen : List Nat} {i : Nat} (hn : seen.Nodup) (hb : ∀ j ∈ seen, j < 2) (hi : i < 2) (hni : i ∉ seen) : seen.length < 2 := by
  match seen, hn, hb, hni with
  | [], _, _, _ => simp
  | [a], _, _, _ => simp
  | a :: b :: r, hn, hb, hni =>
    have h1 := hb a (by simp)
    have h2 := hb b (by simp)
    simp only [List.nodup_cons, List.mem_cons, not_or] at hn hni
    omega

/-- at the range's head -/
structure PartSt (R : Nat) (s : ByteArray) (w : World) (gb mb rb z : Nat) (wr : World) (st1 : GSt) (g : GT) (cs : List Value) (seen : List Nat) : Prop where
  rd : RdIs R wr s st1
  keep : KeepR R w wr
  map : MapIs wr mb relE
  iter : IterIs wr rb mb relE.length seen
  out : Arr wr w.heap.size 80 zeroG
  cell : Arr wr gb 80 cs
  gis : GIs (fun k => k < w.heap.size + 1 ∨ z ≤ k) wr g cs
theorem relE_kind : ∀ (i : Nat) (h : i < relE.length), ∃ kk : Nat, relE[i].2 = .int .u8 (kk : Int) ∧ ∀ x, x = relE[i].1 → kRel x = some kk := by
  rw [relE_eq]
  intro i h
  match i, h with
  | 0, _ => exact ⟨11, rfl, fun x hx => by subst hx; rfl⟩
  | 1, _ => exact ⟨12, rfl, fun x hx => by subst hx; rfl⟩
theorem relE_none {x : ByteArray} {seen : List Nat} (hall : ∀ i, i < relE.length → i ∈ seen) (hun : ∀ i ∈ seen, ∀ h : i < relE.length, relE[i].1 ≠ x) : kRel x = none := by
  rw [relE_eq] at hall hun
  have h0 := hun 0 (hall 0 (by simp)) (by simp)
  have h1 := hun 1 (hall 1 (by simp)) (by simp)
  simp only [List.getElem_cons_zero, List.getElem_cons_succ] at h0 h1
  rw [kRel, if_neg (Ne.symm h0), if_neg (Ne.symm h1)]
theorem relE_len : relE.length = 2 := by rw [relE_eq]; rfl
theorem PartSt.next {R : Nat} {s : ByteArray} {w : World} {gb mb rb z : Nat} {wr : World} {st1 : GSt} {g : GT} {cs : List Value} {seen seen' : List Nat} (h : PartSt R s w gb mb rb z wr st1 g cs seen) {w' : World} (hg : wr.grownBy w' (some rb)) (hsz : w'.heap.size = wr.heap.size)
    (hm : MapIs w' mb relE) (hi : IterIs w' rb mb relE.length seen') (hR : R < w.heap.size) (hz : w.heap.size < z) (hgb : z ≤ gb) (hrb : gb < rb) : PartSt R s w gb mb rb z w' st1 g cs seen' := by
  have hb : ∀ k, k < wr.heap.size → k ≠ rb → w'.heap[k]? = wr.heap[k]? := fun k h1 h2 => hg.block k h1 (fun e => h2 (Option.some.inj e))
  refine ⟨⟨(hb R (Arr.lt h.rd) (by omega)).trans h.rd.heap⟩, ⟨hg.os.trans h.keep.os, hg.tape.trans h.keep.tape, hg.output.trans h.keep.output, by have := h.keep.size; omega, fun k h1 h2 => (hb k (Nat.lt_of_lt_of_le h1 h.keep.size) (by omega)).trans (h.keep.block k h1 h2)⟩,
    hm, hi, ⟨(hb _ h.out.lt (by omega)).trans h.out.heap⟩, ⟨(hb _ h.cell.lt (by omega)).trans h.cell.heap⟩, h.gis.keep (fun k h1 h2 => hb k h1 (fun e => h2 (.inr (by omega))))⟩

set_option maxHeartbeats 8000000 in
set_option maxRecDepth 100000 in
theorem part_sub {R : Nat} {s : ByteArray} {N : Nat} (hs : s.size ≤ 17000) (hsum : SubC R s N 174 .sum) (hself : ∀ N', N' < N → SubC R s N' 145 .part) : SubC R s N 145 .part := by
  intro st w hM hg h hv
  have hRw : R < w.heap.size := Arr.lt h
  have HA1 := Lib.hid (Arr.new w zeroG 80)
  have HB1 := Lib.hid ((Below.refl w.heap.size w).alloc (Nat.le_refl _) (.cells #[.int .u8 0, .int .i64 0, .string ⟨#[]⟩, .slice none 0 0] 80))
  have HR1 := Lib.hid (Arr.alloc h (.cells #[.int .u8 0, .int .i64 0, .string ⟨#[]⟩, .slice none 0 0] 80))
  have HV1 := Lib.hid (hv.keep (.of HB1.out))
  have HG0 := Lib.hid hg
  have HSUM := Lib.hid hsum
  have HSELF := Lib.hid hself
  have HV0 := Lib.hid hv
  have hz1 : (w.alloc (.cells #[.int .u8 0, .int .i64 0, .string ⟨#[]⟩, .slice none 0 0] 80)).heap.size = w.heap.size + 1 := size_alloc _ _
  clear hsum hself h hv hg
  by_cases hnot : st.now = notS
  · have hIS := is_yes R s st _ hs HG0.out.le HR1.out HV1.out
    rw [hnot] at hIS
    obtain ⟨X, hX⟩ : ∃ X, stepB s st.i = X := ⟨_, rfl⟩
    rw [hX] at hIS
    have HX := Lib.hid hX
    have HIS := Lib.hid hIS
    have HNOT := Lib.hid hnot
    have hpp : st.pos < st.i := by rcases HG0.out.adv with h | h; rw [hnot] at h; cases h; exact h
    clear hX hIS hnot
    go_enter Tryz.func145, Tryz.ntmps145
    generalize hw1 : w.alloc (.cells #[.int .u8 0, .int .i64 0, .string ⟨#[]⟩, .slice none 0 0] 80) = w1 at *
    go_wp2_with fail
    clear hw1
    refine HIS.out.mono ?_
    rintro e w2 ⟨hk2, h2⟩
    have HK2 := Lib.hid ((KeepR.of (R := R) HB1.out).trans hk2)
    have HV2 := Lib.hid (HV1.out.keep hk2)
    have HA2 := Lib.hid (HA1.out.keepR hk2 (by omega))
    clear HIS hk2
    cases X with
    | error a =>
      simp only at h2
      subst h2
      exact ⟨rfl, HK2.out, 1, .error a, by show pars s 1 .part st = _; rw [pars, if_pos HNOT.out, HX.out]; rfl, rfl⟩
    | ok st2 =>
      obtain ⟨rfl, hr2⟩ := h2
      obtain ⟨hg2, hp2⟩ := step_gs HG0.out.le HX.out
      have HG2 := Lib.hid hg2
      have HR2 := Lib.hid hr2
      have HP := Lib.hid (HSELF.out (s.size - st.pos) hM st2 w2 (by have := hg2.pos; have := hg2.le; have := HG0.out.le; omega) hg2 hr2 HV2.out)
      clear hg2 hr2
      go_wp2_with fail
      refine HP.out.mono ?_
      rintro e w3 ⟨hk3, fu, r3, hr3, h3⟩
      replace hr3 : pars s fu .part st2 = some r3 := hr3
      have HK3 := Lib.hid (HK2.out.trans hk3)
      clear HP
      rcases r3 with a | gs
      · simp only at h3
        subst h3
        exact ⟨rfl, HK3.out, fu + 1, .error a, by show pars s (fu + 1) .part st = _; rw [pars, if_pos HNOT.out, HX.out]; show thenP (pars s fu .part st2) _ = _; rw [hr3]; rfl, rfl⟩
      obtain ⟨g3, st3⟩ := gs
      obtain ⟨⟨cs3, rfl, hgi3⟩, hr4, hg4, hpos4⟩ := h3
      have HA3 := Lib.hid (HA2.out.keepR hk3 (by omega))
      have hz2 : w.heap.size < w2.heap.size := HA2.out.lt
      have hz3 : w.heap.size < w3.heap.size := HA3.out.lt
      have hX3 : GIs (fun k => k < w.heap.size + 1) w3 g3 cs3 := hgi3.mono (fun k _ h => by omega)
      have HG4 := Lib.hid hg4
      obtain ⟨q1, m1, z1, b1, l2, c2, rfl⟩ := hgi3.four
      have HX3 := Lib.hid hX3
      have HR3 := Lib.hid hr4
      have o0 := HA3.out.cell (j := 0) (by simp)
      have o1 := HA3.out.cell (j := 1) (by simp)
      have o2 := HA3.out.cell (j := 2) (by simp)
      have o3 := HA3.out.cell (j := 3) (by simp)
      have f0 := HA3.out.frozen 0
      have f1 := HA3.out.frozen 1
      have f2 := HA3.out.frozen 2
      have f3 := HA3.out.frozen 3
      simp only [List.getElem_cons_zero, List.getElem_cons_succ] at o0 o1 o2 o3
      clear hk3 hgi3 hr4 hX3
      go_wp2_with fail
      obtain ⟨k1, k2, k3, k4⟩ := store4 (d0 := .int .u8 8) (d1 := .int .i64 0) (d2 := .string ⟨#[]⟩) (d3 := .slice (some ⟨w3.heap.size, 0, none⟩) 1 1) HK3.out (Nat.le_refl _) (by omega) HR3.out (X := fun k => k < w.heap.size + 1) (Nat.lt_succ_self _) HX3.out HA3.out
      have hsz : (((((w3.setCell ⟨w.heap.size, 0, none⟩ (.int .u8 8)).setCell ⟨w.heap.size, 1, none⟩ (.int .i64 0)).setCell ⟨w.heap.size, 2, none⟩ (.string ⟨#[]⟩)).setCell ⟨w.heap.size, 3, none⟩ (.slice (some ⟨w3.heap.size, 0, none⟩) 1 1))).heap.size = w3.heap.size := by simp [World.setCell]
      generalize ((((w3.setCell ⟨w.heap.size, 0, none⟩ (.int .u8 8)).setCell ⟨w.heap.size, 1, none⟩ (.int .i64 0)).setCell ⟨w.heap.size, 2, none⟩ (.string ⟨#[]⟩)).setCell ⟨w.heap.size, 3, none⟩ (.slice (some ⟨w3.heap.size, 0, none⟩) 1 1)) = w4 at *
      have hb4 := (Below.refl w4.heap.size w4).alloc (Nat.le_refl _) (.cells #[.int .u8 q1, .int .i64 m1, .string z1, .slice b1 l2 c2] 80)
      refine ret_guard (fn := Tryz.f145) rfl (g := w.heap.size) (cs := [.int .u8 8, .int .i64 0, .string ⟨#[]⟩, .slice (some ⟨w3.heap.size, 0, none⟩) 1 1]) rfl rfl rfl (k4.alloc _) ?_
      exact ⟨k1.next hb4, fu + 1, .ok (.one 8 g3, st3), by show pars s (fu + 1) .part st = _; rw [pars, if_pos HNOT.out, HX.out]; show thenP (pars s fu .part st2) _ = _; rw [hr3]; rfl, ⟨_, rfl, ⟨w3.heap.size, _, rfl, by omega, ⟨alloc_at hsz.symm⟩, (k3.below hb4).mono (fun k _ h => Nat.lt_succ_of_lt h)⟩⟩, Arr.alloc k2 _, HG4.out, by omega⟩
  · have hIS := is_no R s st notS _ hnot HR1.out
    have HIS := Lib.hid hIS
    have HNOT := Lib.hid hnot
    clear hIS hnot
    go_enter Tryz.func145, Tryz.ntmps145
    generalize hw1 : w.alloc (.cells #[.int .u8 0, .int .i64 0, .string ⟨#[]⟩, .slice none 0 0] 80) = w1 at *
    go_wp2_with fail
    clear hw1
    refine HIS.out.mono ?_
    rintro e w2 ⟨rfl, rfl⟩
    have HP := Lib.hid (HSUM.out st w1 hM HG0.out HR1.out HV1.out)
    clear HIS
    go_wp2_with fail
    refine HP.out.mono ?_
    rintro e w2 ⟨hk2, fu2, r2, hr2, h2⟩
    replace hr2 : pars s fu2 .sum st = some r2 := hr2
    have HK2 := Lib.hid ((KeepR.of (R := R) HB1.out).trans hk2)
    have HV2 := Lib.hid (HV1.out.keep hk2)
    have HA2 := Lib.hid (HA1.out.keepR hk2 (by omega))
    clear HP
    rcases r2 with a | gs
    · simp only at h2
      subst h2
      exact ⟨rfl, HK2.out, fu2 + 1, .error a, by show pars s (fu2 + 1) .part st = _; rw [pars, if_neg HNOT.out]; show thenP (pars s fu2 .sum st) _ = _; rw [hr2]; rfl, rfl⟩
    obtain ⟨g2, st2⟩ := gs
    obtain ⟨⟨cs2, rfl, hgi2⟩, hr3, hg3, hpos3⟩ := h2
    have HG3 := Lib.hid hg3
    have HP2 := Lib.hid hr2
    have hz2 : w.heap.size < w2.heap.size := HA2.out.lt
    have hX2 : GIs (fun k => k < w.heap.size + 1 ∨ w2.heap.size ≤ k) w2 g2 cs2 := hgi2.mono (fun k h1 h => by omega)
    obtain ⟨q1, m1, z1, b1, l2, c2, rfl⟩ := hgi2.four
    obtain ⟨w3, hw3⟩ : ∃ w3, w2.alloc (.cells #[.int .u8 q1, .int .i64 m1, .string z1, .slice b1 l2 c2] 80) = w3 := ⟨_, rfl⟩
    have hz3 : w3.heap.size = w2.heap.size + 1 := by rw [← hw3, size_alloc]
    have hc3 : Arr w3 w2.heap.size 80 [.int .u8 q1, .int .i64 m1, .string z1, .slice b1 l2 c2] := hw3 ▸ Arr.new w2 _ _
    have hb3 : Below w2.heap.size w2 w3 := hw3 ▸ (Below.refl w2.heap.size w2).alloc (Nat.le_refl _) _
    obtain ⟨w4, hu4, hM4, hg4, hz4⟩ := (MapIs.made w3).update Tryz.underlying178 Tryz.underlying9 (k := eqS) (by decide) (.int .u8 11)
    obtain ⟨w5, hu5, hM5, hg5, hz5⟩ := hM4.update Tryz.underlying178 Tryz.underlying9 (k := ltS) (by decide) (.int .u8 12)
    rw [size_alloc] at hz4
    have hrg := hM5.range Tryz.underlying178
    have hb5 : ∀ k, k < w3.heap.size → w5.heap[k]? = w3.heap[k]? := fun k hk => (hg5.block k (by omega) (fun e => by have := Option.some.inj e; omega)).trans ((hg4.block k (by rw [size_alloc]; omega) (fun e => by have := Option.some.inj e; omega)).trans (Below.heap_alloc w3 (.map #[] 0) k hk))
    have hbel5 : Below w3.heap.size w3 w5 := ⟨hg5.os.trans hg4.os, hg5.tape.trans hg4.tape, hg5.output.trans hg4.output, by omega, fun k hk => hb5 k hk⟩
    obtain ⟨w6, hw6⟩ : ∃ w6, w5.alloc (.mapIter (some w3.heap.size) relE.length #[] relE.length) = w6 := ⟨_, rfl⟩
    have hb6 : Below w3.heap.size w3 w6 := hw6 ▸ hbel5.alloc hbel5.size _
    have hI6 : IterIs w6 w5.heap.size w3.heap.size relE.length [] := hw6 ▸ IterIs.made w5 _ _
    have hM6 : MapIs w6 w3.heap.size relE := hw6 ▸ hM5.alloc _
    have HPS : Hid (PartSt R s w w2.heap.size w3.heap.size w5.heap.size w2.heap.size w6 st2 g2 [.int .u8 q1, .int .i64 m1, .string z1, .slice b1 l2 c2] []) :=
      ⟨Arr.below (Arr.below hr3 hb3 (Arr.lt hr3)) hb6 (by have := Arr.lt hr3; omega), (HK2.out.next hb3).next hb6, hM6, hI6, Arr.below (Arr.below HA2.out hb3 hz2) hb6 (by omega), Arr.below hc3 hb6 (by omega), (hX2.below hb3).below hb6⟩
    have HZ3 := Lib.hid hz3
    have HZ5 := Lib.hid hz5
    have HZ4 := Lib.hid hz4
    have HW6 := Lib.hid hw6
    have hmm := @run_makeMap Tryz.prog
    clear hz3 hz5 hk2 hr2 hgi2 hr3 hg3 hX2 hc3 hb3 hM4 hg4 hz4 hM5 hg5 hb5 hbel5 hb6 hI6 hM6
    go_wp2_with fail
    clear hrg hu4 hu5 hmm hw6 hw3
    obtain ⟨gb, hgb⟩ : ∃ gb, w2.heap.size = gb := ⟨_, rfl⟩
    obtain ⟨mb, hmb⟩ : ∃ mb, w3.heap.size = mb := ⟨_, rfl⟩
    obtain ⟨rb, hrb⟩ : ∃ rb, w5.heap.size = rb := ⟨_, rfl⟩
    rw [hgb, hmb, hrb]
    rw [hgb, hmb, hrb] at HPS
    have hgbw : w.heap.size < gb := by omega
    have hrbg : gb < rb := by have h1 := HPS.out.cell.lt; have h2 := HZ3.out; have h3 := HZ5.out; have h4 := HZ4.out; omega
    go_loopw [4, 5] (fun _ _ wr => ∃ seen, Hid (PartSt R s w gb mb rb gb wr st2 g2 [.int .u8 q1, .int .i64 m1, .string z1, .slice b1 l2 c2] seen) ∧ Hid (∀ i ∈ seen, ∀ h : i < relE.length, relE[i].1 ≠ st2.now)) (fun _ _ wr => 2 - seenI rb wr)
    case atStart => exact ⟨[], HPS, fun i hi => by cases hi⟩
    case round =>
      clear HPS
      obtain ⟨seen, HS, HU⟩ := hrel
      have hsum2 : ∀ (f : Nat) (x : Except Nat (GT × GSt)), fu2 ≤ f → (match kRel st2.now with
          | none => some (.ok (g2, st2))
          | some k => thenS (stepB s st2.i) fun st3 => thenP (pars s f .sum st3) fun h st4 => some (.ok (.two k g2 h, st4))) = some x → pars s (f + 1) .part st = some x := fun f x hf hx => by
        rw [pars, if_neg HNOT.out, pars_up hf .sum _ _ HP2.out]; exact hx
      have HSUM2 := Lib.hid hsum2
      clear hsum2
      rcases HS.out.map.next (P := Tryz.prog) HS.out.iter 0 with ⟨hall, hrun⟩ | ⟨i, hl, hns, w7, hrun, hM7, hI7, hg7, hz7, hent⟩
      · have HKR := Lib.hid (relE_none hall HU.out)
        have y0 := HS.out.cell.cell (j := 0) (by simp)
        have y1 := HS.out.cell.cell (j := 1) (by simp)
        have y2 := HS.out.cell.cell (j := 2) (by simp)
        have y3 := HS.out.cell.cell (j := 3) (by simp)
        have o0 := HS.out.out.cell (j := 0) (by simp)
        have o1 := HS.out.out.cell (j := 1) (by simp)
        have o2 := HS.out.out.cell (j := 2) (by simp)
        have o3 := HS.out.out.cell (j := 3) (by simp)
        have f0 := HS.out.out.frozen 0
        have f1 := HS.out.out.frozen 1
        have f2 := HS.out.out.frozen 2
        have f3 := HS.out.out.frozen 3
        simp only [List.getElem_cons_zero, List.getElem_cons_succ] at y0 y1 y2 y3 o0 o1 o2 o3
        clear hall
        go_wp2_with fail
        obtain ⟨k1, k2, k3, k4⟩ := store4 (d0 := .int .u8 q1) (d1 := .int .i64 m1) (d2 := .string z1) (d3 := .slice b1 l2 c2) HS.out.keep (Nat.le_refl _) (by omega) HS.out.rd (X := fun k => k < w.heap.size + 1 ∨ gb ≤ k) (.inl (Nat.lt_succ_self _)) HS.out.gis HS.out.out
        refine ret_guard (fn := Tryz.f145) rfl (g := w.heap.size) (cs := [.int .u8 q1, .int .i64 m1, .string z1, .slice b1 l2 c2]) rfl rfl rfl k4 ?_
        exact ⟨k1, fu2 + 1, .ok (g2, st2), HSUM2.out fu2 _ (Nat.le_refl _) (by rw [HKR.out]), ⟨_, rfl, k3.mono (fun k _ h => .inl (Nat.lt_succ_of_lt h))⟩, k2, HG3.out, hpos3⟩
      · obtain ⟨kk, hval, hkk⟩ := relE_kind i hl
        rw [hval] at hrun hent
        have hS7 := HS.out.next hg7 hz7 hM7 hI7 hRw hgbw (Nat.le_refl _) hrbg
        have hsl := seen_lt HS.out.iter.nodup (fun j hj => by have := HS.out.iter.inB j hj; rw [relE_len] at this; exact this) (by rw [relE_len] at hl; exact hl) hns
        have hu2 : relE[i].1 ≠ st2.now → ∀ j ∈ seen ++ [i], ∀ h : j < relE.length, relE[j].1 ≠ st2.now := fun hne j hj h => by
          rcases List.mem_append.1 hj with hj | hj
          · exact HU.out j hj h
          · rw [List.mem_singleton] at hj; subst hj; exact hne
        have hm0 := seenI_eq HS.out.iter
        have hm7 := seenI_eq hI7
        rw [List.length_append, List.length_singleton] at hm7
        generalize relE[i].1 = key at *
        have HS7 := Lib.hid hS7
        have HU2 := Lib.hid hu2
        have HKK := Lib.hid hkk
        have HM0 := Lib.hid hm0
        have HM7 := Lib.hid hm7
        have hV7 := Lib.hid (HV0.out.keep hS7.keep)
        obtain ⟨x0, x1, x2, x3⟩ := rd_cells hS7.rd
        clear hM7 hI7 hg7 hz7 hval hkk hu2 hm0 hm7 hns hS7
        by_cases hx : st2.now = key
        · have HIS := Lib.hid (is_yes R s st2 w7 hs HG3.out.le HS7.out.rd hV7.out)
          have HKR := Lib.hid (HKK.out _ hx)
          rw [hx] at HIS
          obtain ⟨X, hX⟩ : ∃ X, stepB s st2.i = X := ⟨_, rfl⟩
          rw [hX] at HIS
          have HX := Lib.hid hX
          have HKEY := Lib.hid hx
          clear hX hx
          go_wp2_with fail
          refine HIS.out.mono ?_
          rintro e w8 ⟨hk8, h8⟩
          have HK8 := Lib.hid (HS7.out.keep.trans hk8)
          have HC8 := Lib.hid (HS7.out.cell.keepR hk8 (by omega))
          have HO8 := Lib.hid (HS7.out.out.keepR hk8 (by omega))
          have HX8 := Lib.hid ((GIs.keepR (.inl (by omega)) hk8 HS7.out.gis).mono (Y := fun k => k < w.heap.size + 1 ∨ k = gb) (fun k _ h => by omega))
          have HV8 := Lib.hid (hV7.out.keep hk8)
          clear HIS hk8
          cases X with
          | error a =>
            simp only at h8
            subst h8
            exact ⟨rfl, HK8.out, fu2 + 1, .error a, HSUM2.out fu2 _ (Nat.le_refl _) (by rw [HKR.out]; simp only; rw [HX.out]; rfl), rfl⟩
          | ok st3 =>
            obtain ⟨rfl, hr8⟩ := h8
            obtain ⟨hg8, hp8⟩ := step_gs HG3.out.le HX.out
            have hps8 := HG3.out.pos
            have HG8 := Lib.hid hg8
            have HR8 := Lib.hid hr8
            have y0 := HC8.out.cell (j := 0) (by simp)
            have y1 := HC8.out.cell (j := 1) (by simp)
            have y2 := HC8.out.cell (j := 2) (by simp)
            have y3 := HC8.out.cell (j := 3) (by simp)
            simp only [List.getElem_cons_zero, List.getElem_cons_succ] at y0 y1 y2 y3
            clear hg8 hr8 x0 x1 x2 x3 hrun hent
            go_wp2_with fail
            refine wp_region_held_drew (S := fun _ => True) (by kernel_rfl) trivial (fun hH => ?_)
            have HR9 := Lib.hid (Arr.drew HR8.out)
            have HC9 := Lib.hid (Arr.drew HC8.out)
            have HO9 := Lib.hid (Arr.drew HO8.out)
            have HK9 := Lib.hid (KeepR.drew HK8.out)
            have HV9 := Lib.hid (HV8.out.keep (KeepR.drew (KeepR.refl R w8)))
            have HX9 := Lib.hid (HX8.out.below (Below.refl w8.heap.size w8).drew)
            clear HR8 HC8 HO8 HK8 HV8 HX8
            replace y0 := HC9.out.cell (j := 0) (by simp)
            replace y1 := HC9.out.cell (j := 1) (by simp)
            replace y2 := HC9.out.cell (j := 2) (by simp)
            replace y3 := HC9.out.cell (j := 3) (by simp)
            simp only [List.getElem_cons_zero, List.getElem_cons_succ] at y0 y1 y2 y3
            generalize w8.drew = Wd at *
            refine wpAnyH_take (i := 0) (oi := { dst := some 25, op := Op.move (Operand.tmp 5), type := 5, pos := "guard.go:135", after := #[], guard := none }) (v := .int .u8 kk) rfl (by kernel_rfl) (by kernel_rfl) (by kernel_rfl) (fun _ _ _ h => h) (Or.inl ⟨by rfl, fun W hS => by go_simp⟩) hH ?_
            simp only [Act.put, List.setIfInBounds_toArray, List.set_cons_zero, List.set_cons_succ]
            refine wpAnyH_take (i := 2) (oi := { dst := some 27, op := Op.move (Operand.tmp 0), type := 125, pos := "guard.go:135", after := #[], guard := none }) (v := .pointer (some ⟨R, 0, none⟩)) rfl (by kernel_rfl) (by kernel_rfl) (by kernel_rfl) (fun _ _ _ h => h) (Or.inl ⟨by rfl, fun W hS => by go_simp⟩) hH ?_
            simp only [Act.put, List.setIfInBounds_toArray, List.set_cons_zero, List.set_cons_succ]
            refine wpAnyH_ready (rs := [1, 3]) (by kernel_rfl) (by simp) ?_
            refine AllReadyH.cons (o := { dst := some 26, op := Op.load 80 (Operand.tmp 3), type := 80, pos := "guard.go:135", after := #[], guard := none }) rfl (fun K hK => ?_) (AllReadyH.cons (o := { dst := some 28, op := Op.call { callee := Callee.value (Operand.func 174), args := #[Operand.tmp 27], argTypes := #[125] }, type := 80, pos := "guard.go:135", after := #[{ on := 2, ground := Ground.data }], guard := none }) rfl (fun K hK => ?_) AllReadyH.nil)
            · go_simp
              refine hK.out _ _ trivial (fun hH => ?_)
              clear hK K
              try simp only [Act.put, List.setIfInBounds_toArray, List.set_cons_zero, List.set_cons_succ]
              refine wpAnyH_ready (rs := [3]) (by kernel_rfl) (by simp) ?_
              refine AllReadyH.cons (o := { dst := some 28, op := Op.call { callee := Callee.value (Operand.func 174), args := #[Operand.tmp 27], argTypes := #[125] }, type := 80, pos := "guard.go:135", after := #[{ on := 2, ground := Ground.data }], guard := none }) rfl (fun K hK => ?_) AllReadyH.nil
              go_simp
              refine (HSUM.out st3 Wd (by omega) HG8.out HR9.out HV9.out).mono ?_
              rintro e wA ⟨hkA, fuA, rA, hrA, hA⟩
              replace hrA : pars s fuA .sum st3 = some rA := hrA
              rcases rA with a | gs
              · simp only at hA
                subst hA
                exact ⟨rfl, HK9.out.trans hkA, max fu2 fuA + 1, .error a, HSUM2.out _ _ (Nat.le_max_left _ _) (by rw [HKR.out]; simp only; rw [HX.out]; show thenP (pars s (max fu2 fuA) .sum st3) _ = _; rw [pars_up (Nat.le_max_right fu2 fuA) .sum _ _ hrA]; rfl), rfl⟩
              obtain ⟨gA, stA⟩ := gs
              obtain ⟨⟨csA, rfl, hgiA⟩, hrB, hgB, hposB⟩ := hA
              have HPA := Lib.hid hrA
              have hszA : w.heap.size + 1 ≤ Wd.heap.size := HO9.out.lt
              have hgbA : gb < Wd.heap.size := HC9.out.lt
              have HX5 := Lib.hid (GIs.keepR (X := fun k => k < w.heap.size + 1 ∨ k = gb) (Or.inl (by omega)) hkA HX9.out)
              have HX6 := Lib.hid (hgiA.mono (Y := fun k => k < w.heap.size + 1 ∨ k = gb) (fun k _ h => by omega))
              have HC6 := Lib.hid (HC9.out.keepR hkA (by omega))
              have HO6 := Lib.hid (HO9.out.keepR hkA (by omega))
              have HR6 := Lib.hid hrB
              have HG6 := Lib.hid hgB
              have HK6 := Lib.hid (HK9.out.trans hkA)
              obtain ⟨q5, m5, z5, b5, l5, c5, rfl⟩ := hgiA.four
              replace y0 := HC6.out.cell (j := 0) (by simp)
              replace y1 := HC6.out.cell (j := 1) (by simp)
              replace y2 := HC6.out.cell (j := 2) (by simp)
              replace y3 := HC6.out.cell (j := 3) (by simp)
              simp only [List.getElem_cons_zero, List.getElem_cons_succ] at y0 y1 y2 y3
              clear hkA hrA hgiA hrB hgB
              refine hK.out _ _ trivial (fun hH => ?_)
              clear hK K
              try simp only [Act.put, List.setIfInBounds_toArray, List.set_cons_zero, List.set_cons_succ]
              refine wpAnyH_ready (rs := [4]) (by kernel_rfl) (by simp) ?_
              refine AllReadyH.cons (o := { dst := some 29, op := Op.call { callee := Callee.value (Operand.func 144), args := #[Operand.tmp 25, Operand.tmp 26, Operand.tmp 28], argTypes := #[5, 80, 80] }, type := 80, pos := "guard.go:135", after := #[{ on := 0, ground := Ground.data }, { on := 1, ground := Ground.data }, { on := 3, ground := Ground.data }, { on := 3, ground := Ground.chain }], guard := none }) rfl (fun K hK => ?_) AllReadyH.nil
              go_simp
              refine (two_walk (fun k => k < w.heap.size + 1 ∨ k = gb) kk g2 gA [.int .u8 q1, .int .i64 m1, .string z1, .slice b1 l2 c2] [.int .u8 q5, .int .i64 m5, .string z5, .slice b5 l5 c5] wA (fun k h => by have := HC6.out.lt; have := HO6.out.lt; omega) HX5.out HX6.out).mono ?_
              rintro e wB ⟨hbB, csB, rfl, hgiB⟩
              have HO7 := Lib.hid (Arr.below HO6.out hbB HO6.out.lt)
              have HR7 := Lib.hid (Arr.below HR6.out hbB (Arr.lt HR6.out))
              have HK7 := Lib.hid (HK6.out.next hbB)
              have HX7 := Lib.hid hgiB
              obtain ⟨q6, m6, z6, b6, l6, c6, rfl⟩ := hgiB.four
              have f0 := HO7.out.frozen 0
              have f1 := HO7.out.frozen 1
              have f2 := HO7.out.frozen 2
              have f3 := HO7.out.frozen 3
              replace y0 := HO7.out.cell (j := 0) (by simp)
              replace y1 := HO7.out.cell (j := 1) (by simp)
              replace y2 := HO7.out.cell (j := 2) (by simp)
              replace y3 := HO7.out.cell (j := 3) (by simp)
              simp only [List.getElem_cons_zero, List.getElem_cons_succ] at y0 y1 y2 y3
              clear hbB hgiB
              refine hK.out _ _ trivial (fun hH => ?_)
              clear hK K
              try simp only [Act.put, List.setIfInBounds_toArray, List.set_cons_zero, List.set_cons_succ]
              refine wpAnyH_ready (rs := [5]) (by kernel_rfl) (by simp) ?_
              refine AllReadyH.cons (o := { dst := none, op := Op.store 80 (Operand.tmp 2) (Operand.tmp 29), type := 0, pos := "guard.go:135", after := #[{ on := 4, ground := Ground.data }, { on := 4, ground := Ground.chain }, { on := 0, ground := Ground.phase }, { on := 1, ground := Ground.phase }, { on := 2, ground := Ground.phase }, { on := 3, ground := Ground.phase }, { on := 4, ground := Ground.phase }], guard := none }) rfl (fun K hK => ?_) AllReadyH.nil
              go_simp
              refine hK.out _ _ trivial (fun hH => ?_)
              clear hK K
              try simp only [Act.put, List.setIfInBounds_toArray, List.set_cons_zero, List.set_cons_succ]
              refine wpAnyH_done (by kernel_rfl) ?_ _
              obtain ⟨k1, k2, k3, k4⟩ := store4 (d0 := .int .u8 q6) (d1 := .int .i64 m6) (d2 := .string z6) (d3 := .slice b6 l6 c6) HK7.out (Nat.le_refl _) (by omega) HR7.out (X := fun k => k < w.heap.size + 1 ∨ k = gb) (.inl (Nat.lt_succ_self _)) HX7.out HO7.out
              go_wp2_with fail
              refine ret_guard (fn := Tryz.f145) rfl (g := w.heap.size) (cs := [.int .u8 q6, .int .i64 m6, .string z6, .slice b6 l6 c6]) rfl rfl rfl k4 ?_
              exact ⟨k1, max fu2 fuA + 1, .ok (.two kk g2 gA, stA), HSUM2.out _ _ (Nat.le_max_left _ _) (by rw [HKR.out]; simp only; rw [HX.out]; show thenP (pars s (max fu2 fuA) .sum st3) _ = _; rw [pars_up (Nat.le_max_right fu2 fuA) .sum _ _ HPA.out]; rfl), ⟨_, rfl, k3.mono (fun k _ h => .inl (Nat.lt_succ_of_lt h))⟩, k2, HG6.out, by omega⟩
            · go_simp
              refine (HSUM.out st3 Wd (by omega) HG8.out HR9.out HV9.out).mono ?_
              rintro e wA ⟨hkA, fuA, rA, hrA, hA⟩
              replace hrA : pars s fuA .sum st3 = some rA := hrA
              rcases rA with a | gs
              · simp only at hA
                subst hA
                exact ⟨rfl, HK9.out.trans hkA, max fu2 fuA + 1, .error a, HSUM2.out _ _ (Nat.le_max_left _ _) (by rw [HKR.out]; simp only; rw [HX.out]; show thenP (pars s (max fu2 fuA) .sum st3) _ = _; rw [pars_up (Nat.le_max_right fu2 fuA) .sum _ _ hrA]; rfl), rfl⟩
              obtain ⟨gA, stA⟩ := gs
              obtain ⟨⟨csA, rfl, hgiA⟩, hrB, hgB, hposB⟩ := hA
              have HPA := Lib.hid hrA
              have hszA : w.heap.size + 1 ≤ Wd.heap.size := HO9.out.lt
              have hgbA : gb < Wd.heap.size := HC9.out.lt
              have HX5 := Lib.hid (GIs.keepR (X := fun k => k < w.heap.size + 1 ∨ k = gb) (Or.inl (by omega)) hkA HX9.out)
              have HX6 := Lib.hid (hgiA.mono (Y := fun k => k < w.heap.size + 1 ∨ k = gb) (fun k _ h => by omega))
              have HC6 := Lib.hid (HC9.out.keepR hkA (by omega))
              have HO6 := Lib.hid (HO9.out.keepR hkA (by omega))
              have HR6 := Lib.hid hrB
              have HG6 := Lib.hid hgB
              have HK6 := Lib.hid (HK9.out.trans hkA)
              obtain ⟨q5, m5, z5, b5, l5, c5, rfl⟩ := hgiA.four
              replace y0 := HC6.out.cell (j := 0) (by simp)
              replace y1 := HC6.out.cell (j := 1) (by simp)
              replace y2 := HC6.out.cell (j := 2) (by simp)
              replace y3 := HC6.out.cell (j := 3) (by simp)
              simp only [List.getElem_cons_zero, List.getElem_cons_succ] at y0 y1 y2 y3
              clear hkA hrA hgiA hrB hgB
              refine hK.out _ _ trivial (fun hH => ?_)
              clear hK K
              try simp only [Act.put, List.setIfInBounds_toArray, List.set_cons_zero, List.set_cons_succ]
              refine wpAnyH_ready (rs := [1]) (by kernel_rfl) (by simp) ?_
              refine AllReadyH.cons (o := { dst := some 26, op := Op.load 80 (Operand.tmp 3), type := 80, pos := "guard.go:135", after := #[], guard := none }) rfl (fun K hK => ?_) AllReadyH.nil
              go_simp
              refine hK.out _ _ trivial (fun hH => ?_)
              clear hK K
              try simp only [Act.put, List.setIfInBounds_toArray, List.set_cons_zero, List.set_cons_succ]
              refine wpAnyH_ready (rs := [4]) (by kernel_rfl) (by simp) ?_
              refine AllReadyH.cons (o := { dst := some 29, op := Op.call { callee := Callee.value (Operand.func 144), args := #[Operand.tmp 25, Operand.tmp 26, Operand.tmp 28], argTypes := #[5, 80, 80] }, type := 80, pos := "guard.go:135", after := #[{ on := 0, ground := Ground.data }, { on := 1, ground := Ground.data }, { on := 3, ground := Ground.data }, { on := 3, ground := Ground.chain }], guard := none }) rfl (fun K hK => ?_) AllReadyH.nil
              go_simp
              refine (two_walk (fun k => k < w.heap.size + 1 ∨ k = gb) kk g2 gA [.int .u8 q1, .int .i64 m1, .string z1, .slice b1 l2 c2] [.int .u8 q5, .int .i64 m5, .string z5, .slice b5 l5 c5] wA (fun k h => by have := HC6.out.lt; have := HO6.out.lt; omega) HX5.out HX6.out).mono ?_
              rintro e wB ⟨hbB, csB, rfl, hgiB⟩
              have HO7 := Lib.hid (Arr.below HO6.out hbB HO6.out.lt)
              have HR7 := Lib.hid (Arr.below HR6.out hbB (Arr.lt HR6.out))
              have HK7 := Lib.hid (HK6.out.next hbB)
              have HX7 := Lib.hid hgiB
              obtain ⟨q6, m6, z6, b6, l6, c6, rfl⟩ := hgiB.four
              have f0 := HO7.out.frozen 0
              have f1 := HO7.out.frozen 1
              have f2 := HO7.out.frozen 2
              have f3 := HO7.out.frozen 3
              replace y0 := HO7.out.cell (j := 0) (by simp)
              replace y1 := HO7.out.cell (j := 1) (by simp)
              replace y2 := HO7.out.cell (j := 2) (by simp)
              replace y3 := HO7.out.cell (j := 3) (by simp)
              simp only [List.getElem_cons_zero, List.getElem_cons_succ] at y0 y1 y2 y3
              clear hbB hgiB
              refine hK.out _ _ trivial (fun hH => ?_)
              clear hK K
              try simp only [Act.put, List.setIfInBounds_toArray, List.set_cons_zero, List.set_cons_succ]
              refine wpAnyH_ready (rs := [5]) (by kernel_rfl) (by simp) ?_
              refine AllReadyH.cons (o := { dst := none, op := Op.store 80 (Operand.tmp 2) (Operand.tmp 29), type := 0, pos := "guard.go:135", after := #[{ on := 4, ground := Ground.data }, { on := 4, ground := Ground.chain }, { on := 0, ground := Ground.phase }, { on := 1, ground := Ground.phase }, { on := 2, ground := Ground.phase }, { on := 3, ground := Ground.phase }, { on := 4, ground := Ground.phase }], guard := none }) rfl (fun K hK => ?_) AllReadyH.nil
              go_simp
              refine hK.out _ _ trivial (fun hH => ?_)
              clear hK K
              try simp only [Act.put, List.setIfInBounds_toArray, List.set_cons_zero, List.set_cons_succ]
              refine wpAnyH_done (by kernel_rfl) ?_ _
              obtain ⟨k1, k2, k3, k4⟩ := store4 (d0 := .int .u8 q6) (d1 := .int .i64 m6) (d2 := .string z6) (d3 := .slice b6 l6 c6) HK7.out (Nat.le_refl _) (by omega) HR7.out (X := fun k => k < w.heap.size + 1 ∨ k = gb) (.inl (Nat.lt_succ_self _)) HX7.out HO7.out
              go_wp2_with fail
              refine ret_guard (fn := Tryz.f145) rfl (g := w.heap.size) (cs := [.int .u8 q6, .int .i64 m6, .string z6, .slice b6 l6 c6]) rfl rfl rfl k4 ?_
              exact ⟨k1, max fu2 fuA + 1, .ok (.two kk g2 gA, stA), HSUM2.out _ _ (Nat.le_max_left _ _) (by rw [HKR.out]; simp only; rw [HX.out]; show thenP (pars s (max fu2 fuA) .sum st3) _ = _; rw [pars_up (Nat.le_max_right fu2 fuA) .sum _ _ HPA.out]; rfl), ⟨_, rfl, k3.mono (fun k _ h => .inl (Nat.lt_succ_of_lt h))⟩, k2, HG6.out, by omega⟩
        · have HIS := Lib.hid (is_no R s st2 key w7 hx HS7.out.rd)
          have HKEY := Lib.hid (HU2.out (Ne.symm hx))
          clear hx
          go_wp2_with fail
          refine HIS.out.mono ?_
          rintro e w8 ⟨rfl, rfl⟩
          go_wp2_with fail
          exact ⟨⟨seen ++ [i], HS7, HKEY⟩, by rw [HM0.out, HM7.out]; omega⟩
end Go.Proofs.YtfbbkmdhnkmonaaGreatDoor
