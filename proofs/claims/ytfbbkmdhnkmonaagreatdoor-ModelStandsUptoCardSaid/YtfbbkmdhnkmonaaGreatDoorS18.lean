/- package model: row: are texts names, none twice? package model: staged: may a stage be? Written by wip/mostagedgen.py. package model: built: may a model's parts be? -/
import Derived.Test.YtfbbkmdhnkmonaaGreatDoorS09
import Derived.Test.YtfbbkmdhnkmonaaGreatDoorS11
import Derived.Test.YtfbbkmdhnkmonaaGreatDoorS05
import Derived.Test.YtfbbkmdhnkmonaaGreatDoorS12
import Derived.Test.YtfbbkmdhnkmonaaGreatDoorS30
import Derived.Test.YtfbbkmdhnkmonaaGreatDoorS14
import Derived.Test.YtfbbkmdhnkmonaaGreatDoorS13
namespace Go.Proofs.YtfbbkmdhnkmonaaGreatDoor
open Go.RowKit

def entsU (l : List ByteArray) : Ents := l.map fun s => (s, Value.agg #[])
theorem entsU_keys (l : List ByteArray) : (entsU l).map (·.1) = l := by
  induction l with
  | nil => rfl
  | cons x l ih => show x :: (entsU l).map (·.1) = _; rw [ih]
theorem getM_yes {k : ByteArray} : ∀ {l : List ByteArray}, k ∈ l → getM (entsU l) k = some (Value.agg #[])
  | x :: l, h => by
    show (if x = k then some (Value.agg #[]) else getM (entsU l) k) = _
    by_cases hx : x = k
    · rw [if_pos hx]
    · rw [if_neg hx]
      rcases List.mem_cons.1 h with h | h
      · exact absurd h.symm hx
      · exact getM_yes h
theorem getM_no {k : ByteArray} : ∀ {l : List ByteArray}, k ∉ l → getM (entsU l) k = none
  | [], _ => rfl
  | x :: l, h => by
    show (if x = k then some (Value.agg #[]) else getM (entsU l) k) = _
    rw [if_neg (fun e => h (by simp [e]))]
    exact getM_no (fun h' => h (List.mem_cons_of_mem _ h'))
theorem zeroUnit (w : World) : (zeroValue 147).run Tryz.prog w = .ok (.agg #[]) w := by kernel_rfl
theorem nodup_take {l : List ByteArray} {m : Nat} (h : m < l.length) (hm : l[m] ∈ l.take m) : ¬ l.Nodup := by
  intro hn
  obtain ⟨j, hj, he⟩ := List.mem_iff_getElem.1 hm
  rw [List.getElem_take] at he
  have hjm : j < m := by simp at hj; omega
  have := (List.getElem_inj hn).1 he
  omega
set_option maxHeartbeats 8000000 in
set_option maxRecDepth 100000 in
theorem mrow_walk (v : Value) (l : List ByteArray) (w : World) (hl : l.length ≤ 4000000) (hs : ∀ s ∈ l, s.size ≤ maxLen) (h : Strs w.heap.size w v l) (hv : GRng w) :
    Calls Tryz.prog 43 #[v] w (fun e w' => e = .returned (.bool (rowB l)) ∧ Below w.heap.size w w') := by
  obtain ⟨a, c, b, o, rfl, hle, ha, hc⟩ := h.cells
  have HA := Lib.hid ha
  have HC := Lib.hid hc
  have HS := Lib.hid hs
  have HN := Lib.hid (fun s W (hb : Below w.heap.size w W) => named_walk s W (hv.below hb))
  obtain ⟨q, hq⟩ : ∃ q, rowB l = q := ⟨_, rfl⟩
  rw [hq]
  have HQ := Lib.hid hq
  clear h ha hc hs hv hq hle
  have hmm := @run_makeMap Tryz.prog
  go_enter Tryz.func43, Tryz.ntmps43
  go_wp2_with fail
  go_loopw [11] (fun i wr => ∃ m : Nat, m ≤ l.length ∧ i = .int .i64 (m : Int) ∧ Hid (MapIs wr w.heap.size (entsU (l.take m))) ∧ Hid (Below w.heap.size w wr) ∧ Hid (w.heap.size < wr.heap.size) ∧ Hid (∀ j (h : j < l.length), j < m → namedB l[j] = true)) (fun i _ => l.length - (intOf i).toNat)
  case atStart => exact ⟨0, Nat.zero_le _, rfl, MapIs.made w, (Below.refl _ _).alloc (Nat.le_refl _) _, by show _ < _; rw [size_alloc]; omega, fun j _ h => absurd h (Nat.not_lt_zero _)⟩
  case round =>
    obtain ⟨m, hml, rfl, HM, HB, HZ, HY⟩ := hrel
    by_cases hlt : m < l.length
    · have i1 : (m : Int) < (l.length : Int) := by omega
      have i2 : (0 : Int) ≤ (m : Int) := by omega
      have HML := Lib.hid hlt
      obtain ⟨rfl, hbl⟩ := HA.out (by omega)
      have x0 : wr.cell? ⟨b, o + m, none⟩ = some (.string l[m]) := (HB.out.cell (p := ⟨b, o + m, none⟩) hbl).trans (HC.out m hlt)
      obtain ⟨s, hs⟩ : ∃ s, l[m] = s := ⟨_, rfl⟩
      have hsz : s.size ≤ maxLen := hs ▸ HS.out l[m] (List.getElem_mem hlt)
      rw [hs] at x0
      have HSM := Lib.hid hs
      have hlk := HM.out.lookup Tryz.underlying146 Tryz.underlying9 zeroUnit hsz
      have HSZ := Lib.hid hsz
      clear hs hsz
      by_cases hin : s ∈ l.take m
      · rw [getM_yes hin] at hlk
        simp only [Option.getD_some, Option.isSome_some] at hlk
        have HQ2 : Hid (false = q) := by
          show _ = _
          rw [← HQ.out]
          have := nodup_take HML.out (show l[m] ∈ _ from HSM.out.symm ▸ hin)
          simp [rowB, this]
        clear hin HN HM HY HQ
        go_wp2_with fail
        go_ret
        exact ⟨ret_bool HQ2.out, HB.out.alloc HB.out.size _⟩
      · rw [getM_no hin] at hlk
        simp only [Option.getD_none, Option.isSome_none] at hlk
        have HIN := Lib.hid hin
        clear hin
        go_wp2_with fail
        have hb3 := HB.out.alloc HB.out.size (.cells #[] 147)
        refine (HN.out s _ hb3).mono ?_
        rintro e w4 ⟨rfl, hb4⟩
        have hM3 := HM.out.alloc (.cells #[] 147)
        have hM4 := hM3.below hb4 hM3.lt
        have hb34 := hb3.trans (hb4.mono hb3.size)
        have HB4 := Lib.hid hb34
        have HZ4 : Hid (w.heap.size < w4.heap.size) := by
          show _ < _
          have h1 := HZ.out
          have h2 := hb4.size
          rw [size_alloc] at h2
          omega
        obtain ⟨r, hr⟩ : ∃ r, namedB s = r := ⟨_, rfl⟩
        have HR := Lib.hid hr
        rw [hr]
        clear hr hb3 hb4 hM3 hb34 HM HB HZ HN x0 hlk
        cases r with
        | false =>
          have HQ2 : Hid (false = q) := by
            show _ = _
            rw [← HQ.out]
            have : l.all namedB = false := List.all_eq_false.2 ⟨l[m]'HML.out, List.getElem_mem _, by rw [show l[m]'HML.out = s from HSM.out, HR.out]; simp⟩
            simp [rowB, this]
          clear hM4 HQ
          go_wp2_with fail
          go_ret
          exact ⟨ret_bool HQ2.out, HB4.out⟩
        | true =>
          obtain ⟨w5, hu, hM5, hg5, hz5⟩ := hM4.update Tryz.underlying146 Tryz.underlying9 HSZ.out (.agg #[])
          have HM5 : Hid (MapIs w5 w.heap.size (entsU (l.take (m + 1)))) := by
            have e : putM (entsU (l.take m)) s (.agg #[]) = entsU (l.take (m + 1)) := by
              rw [putM_new (getM_no HIN.out), List.take_succ_eq_append_getElem HML.out, show l[m]'HML.out = s from HSM.out]
              simp [entsU]
            rw [← e]; exact hM5
          have HB5 := Lib.hid (HB4.out.grown hg5 HB4.out.size (fun j hj => by cases hj; exact Nat.le_refl _))
          have HZ5 : Hid (w.heap.size < w5.heap.size) := by show _ < _; rw [hz5]; exact HZ4.out
          have HY5 : Hid (∀ j (h : j < l.length), j < m + 1 → namedB l[j] = true) := fun j h hj => by
            rcases Nat.lt_or_ge j m with h1 | h1
            · exact HY.out j h h1
            · obtain rfl : j = m := by omega
              rw [show l[j]'h = s from HSM.out]; exact HR.out
          have wr1 : IntKind.i64.wrap ((m : Int) + 1) = (m : Int) + 1 := wrap_i64 (by omega) (by omega)
          clear hM4 hM5 hg5 hz5 HB4 HZ4 HY HR
          go_wp2_with fail
          refine ⟨⟨m + 1, by have := HML.out; omega, by go_num, HM5, HB5, HZ5, HY5⟩, by simp only [intOf]; have := HML.out; omega⟩
    · obtain rfl : m = l.length := by omega
      have i1 : ¬ (l.length : Int) < (l.length : Int) := by omega
      have HQ2 : Hid (true = q) := by
        show _ = _
        rw [← HQ.out]
        have h1 : l.Nodup := by
          have := HM.out.nodup
          rw [List.take_length, entsU_keys] at this
          exact this
        have h2 : l.all namedB = true := List.all_eq_true.2 fun x hx => by
          obtain ⟨j, hj, rfl⟩ := List.mem_iff_getElem.1 hx
          exact HY.out j hj hj
        simp [rowB, h1, h2]
      clear HM HY HN HQ
      go_wp2_with fail
      go_ret
      exact ⟨ret_bool HQ2.out, HB.out⟩
end Go.Proofs.YtfbbkmdhnkmonaaGreatDoor

namespace Go.Proofs.YtfbbkmdhnkmonaaGreatDoor
open Go.RowKit

set_option maxHeartbeats 16000000 in
set_option maxRecDepth 100000 in
theorem staged_walk (md : ModelD) (v : ModelV) (n : Nat) (hn : n < md.stages.length) (w : World) (hz : md.Sml) (hM : ModelM false (From 0) w md v) (hv : GRng w) :
    Calls Tryz.prog 47 #[.agg (v.cs md).toArray, .int .i64 (n : Int)] w (fun e w' => e = .returned (.bool (stagedB md n md.stages[n])) ∧ Below w.heap.size w w') := by
  obtain ⟨w1, hw1⟩ : ∃ w1, w.alloc (.cells (v.cs md).toArray 31) = w1 := ⟨_, rfl⟩
  have hb1 : Below w.heap.size w w1 := hw1 ▸ (Below.refl _ _).alloc (Nat.le_refl _) _
  have hx1 : Arr w1 w.heap.size 31 (v.cs md) := hw1 ▸ Arr.new w (v.cs md) _
  have HZW : Hid (w1.heap.size = w.heap.size + 1) := by show _ = _; rw [← hw1, size_alloc]
  have HW1 := Lib.hid hw1
  have HB1 := Lib.hid hb1
  have HX := Lib.hid hx1
  have i1 : (n : Int) < (md.stages.length : Int) := by omega
  have i2 : (0 : Int) ≤ (n : Int) := by omega
  obtain ⟨b, off, ha, hbl, d1, e1, d2, e2, -, -, c0, c1, c2, c3, c4, c5, c6⟩ := stage_at (hM.grow hb1) hn
  obtain ⟨y0, y1, y2, y3, y4, y5⟩ := box6 hx1 (Below.refl _ _)
  rw [ha] at y3
  have HC := Lib.hid (fun s W (hb : Below w.heap.size w W) => inStrs W.heap.size _ md.events s W (by have := hz.events; omega) (strD_strs (hM.grow hb).events))
  have HN := Lib.hid (fun s W (hb : Below w.heap.size w W) => named_walk s W (hv.below hb))
  obtain ⟨q, hq⟩ : ∃ q, stagedB md n md.stages[n] = q := ⟨_, rfl⟩
  rw [hq]
  unfold stagedB at hq
  obtain ⟨⟨nm, inn, ops, cls, role, aft, ev⟩, hst⟩ : ∃ s, md.stages[n] = s := ⟨_, rfl⟩
  rw [hst] at hq c0 c1 c2 c3 c4 c5 c6
  dsimp only at hq c0 c1 c2 c3 c4 c5 c6
  have HQ := Lib.hid hq
  clear hq hst hM hv hz hb1 hx1 hw1 ha
  -- the stage in a block of its own
  obtain ⟨w2, hw2⟩ : ∃ w2, w1.alloc (.cells #[.string nm, .int .i64 inn, .slice d1 ops.length e1, .slice d2 cls.length e2, .string role, .int .i64 aft, .string ev] 38) = w2 := ⟨_, rfl⟩
  have hb2 : Below w1.heap.size w1 w2 := hw2 ▸ (Below.refl _ _).alloc (Nat.le_refl _) _
  have hx2 := (show Arr w2 w1.heap.size 38 [.string nm, .int .i64 inn, .slice d1 ops.length e1, .slice d2 cls.length e2, .string role, .int .i64 aft, .string ev] from hw2 ▸ Arr.new w1 _ _)
  have box7 : ∀ W, Below w2.heap.size w2 W → W.cell? ⟨w1.heap.size, 1, none⟩ = some (.int .i64 inn) ∧ W.cell? ⟨w1.heap.size, 4, none⟩ = some (.string role) ∧ W.cell? ⟨w1.heap.size, 5, none⟩ = some (.int .i64 aft) ∧ W.cell? ⟨w1.heap.size, 6, none⟩ = some (.string ev) := fun W hb =>
    ⟨cellBelow2 hb (hx2.cell (j := 1) (by simp)), cellBelow2 hb (hx2.cell (j := 4) (by simp)), cellBelow2 hb (hx2.cell (j := 5) (by simp)), cellBelow2 hb (hx2.cell (j := 6) (by simp))⟩
  have HB12 := Lib.hid hb2
  have HB2 := Lib.hid (HB1.out.trans (hb2.mono HB1.out.size))
  have HBX := Lib.hid box7
  have HW2 := Lib.hid hw2
  clear hx2 box7 hb2 hw2
  -- up to the judgement
  go_enter Tryz.func47, Tryz.ntmps47
  go_upto_region 1 with fail
  rw [HW1.out]
  go_upto_region 2 with fail
  rw [HW2.out]
  clear y0 y1 y2 y3 y4 y5 c0 c1 c2 c3 c4 c5 c6
  obtain ⟨y0, y1, y2, y3, y4, y5⟩ := box6 HX.out HB12.out
  obtain ⟨z1, z4, z5, z6⟩ := HBX.out w2 (Below.refl _ _)
  by_cases h1 : inn < -1
  · have HQ2 : Hid (false = q) := by show _ = _; rw [← HQ.out, if_pos (.inl h1)]
    go_wp2_with fail
    go_ret
    exact ⟨ret_bool HQ2.out, HB2.out⟩
  by_cases h2 : (n : Int) ≤ inn
  · have HQ2 : Hid (false = q) := by show _ = _; rw [← HQ.out, if_pos (.inr (.inl h2))]
    go_wp2_with fail
    go_ret
    exact ⟨ret_bool HQ2.out, HB2.out⟩
  rcases nz_list (s := role) with ⟨h3, h4⟩ | ⟨h3, h4⟩
  · have e4 : (role.toList != []) = false := by rw [bne, h4]; rfl
    by_cases h5 : aft < 0
    · have HQ2 : Hid (false = q) := by show _ = _; rw [← HQ.out, if_pos (.inr (.inr (.inr (.inl h5))))]
      go_wp2_with fail
      go_ret
      exact ⟨ret_bool HQ2.out, HB2.out⟩
    have h5_0 := h5
    clear h5
    by_cases h5 : 1099511627776 < aft
    · have HQ2 : Hid (false = q) := by show _ = _; rw [← HQ.out, if_pos (.inr (.inr (.inr (.inr h5))))]
      go_wp2_with fail
      go_ret
      exact ⟨ret_bool HQ2.out, HB2.out⟩
    have h5_1 := h5
    clear h5
    have hall : ¬ (inn < -1 ∨ (n : Int) ≤ inn ∨ (role.size ≠ 0 ∧ namedB role = false) ∨ aft < 0 ∨ 1099511627776 < aft) := by
      rintro (h | h | ⟨h, h'⟩ | h | h)
      · exact h1 h
      · exact h2 h
      · exact h (size_zero.2 h3)
      · exact h5_0 h
      · exact h5_1 h
    by_cases h6 : aft = 0
    · subst h6
      have HQ2 : Hid (ev.toList.isEmpty = q) := by show _ = _; rw [← HQ.out, if_neg hall, if_pos rfl, nz_emp]
      clear hall
      go_wp2_with fail
      go_ret
      exact ⟨ret_bool HQ2.out, HB2.out⟩
    · have HQ2 : Hid (hasB md.events ev = q) := by show _ = _; rw [← HQ.out, if_neg hall, if_neg h6]
      have e6 : (aft == 0) = false := by simpa using h6
      clear hall h6
      go_wp2_with fail
      refine (HC.out ev _ HB2.out).mono ?_
      rintro e w5 ⟨rfl, rfl⟩
      go_wp2_with fail
      go_ret
      exact ⟨ret_bool HQ2.out, HB2.out⟩
  · have e4 : (role.toList != []) = true := by rw [bne, h4]; rfl
    have hr0 : role.size ≠ 0 := fun h => h3 (size_zero.1 h)
    obtain ⟨r, hr⟩ : ∃ r, namedB role = r := ⟨_, rfl⟩
    have HN2 := Lib.hid (HN.out role w2 HB2.out)
    rw [hr] at HN2
    have HNR := Lib.hid hr
    clear hr HN
    have hcall : ∀ (R : Ending → World → Prop), (∀ w4, Below w2.heap.size w2 w4 → R (.returned (.bool r)) w4) → Calls Tryz.prog 19 #[.string role] w2 R := fun R hR => HN2.out.mono (fun e w4 ⟨he, hb⟩ => he ▸ hR w4 hb)
    have HCALL := Lib.hid hcall
    clear hcall HN2
    cases r with
    | false =>
      have HQ2 : Hid (false = q) := by show _ = _; rw [← HQ.out, if_pos (.inr (.inr (.inl ⟨hr0, HNR.out⟩)))]
      go_wp2_with fail
      refine HCALL.out _ fun w4 hb4 => ?_
      have HB4 := Lib.hid (HB2.out.trans (hb4.mono HB2.out.size))
      clear hb4
      go_wp2_with fail
      go_ret
      exact ⟨ret_bool HQ2.out, HB4.out⟩
    | true =>
      by_cases h5 : aft < 0
      · have HQ2 : Hid (false = q) := by show _ = _; rw [← HQ.out, if_pos (.inr (.inr (.inr (.inl h5))))]
        go_wp2_with fail
        refine HCALL.out _ fun w4 hb4 => ?_
        have HB4 := Lib.hid (HB2.out.trans (hb4.mono HB2.out.size))
        clear z1 z4 z5 z6 y0 y1 y2 y3 y4 y5
        obtain ⟨z1, z4, z5, z6⟩ := HBX.out w4 hb4
        obtain ⟨y0, y1, y2, y3, y4, y5⟩ := box6 HX.out (HB12.out.trans (hb4.mono HB12.out.size))
        clear hb4
        go_wp2_with fail
        go_ret
        exact ⟨ret_bool HQ2.out, HB4.out⟩
      have h5_0 := h5
      clear h5
      by_cases h5 : 1099511627776 < aft
      · have HQ2 : Hid (false = q) := by show _ = _; rw [← HQ.out, if_pos (.inr (.inr (.inr (.inr h5))))]
        go_wp2_with fail
        refine HCALL.out _ fun w4 hb4 => ?_
        have HB4 := Lib.hid (HB2.out.trans (hb4.mono HB2.out.size))
        clear z1 z4 z5 z6 y0 y1 y2 y3 y4 y5
        obtain ⟨z1, z4, z5, z6⟩ := HBX.out w4 hb4
        obtain ⟨y0, y1, y2, y3, y4, y5⟩ := box6 HX.out (HB12.out.trans (hb4.mono HB12.out.size))
        clear hb4
        go_wp2_with fail
        go_ret
        exact ⟨ret_bool HQ2.out, HB4.out⟩
      have h5_1 := h5
      clear h5
      have hall : ¬ (inn < -1 ∨ (n : Int) ≤ inn ∨ (role.size ≠ 0 ∧ namedB role = false) ∨ aft < 0 ∨ 1099511627776 < aft) := by
        rintro (h | h | ⟨h, h'⟩ | h | h)
        · exact h1 h
        · exact h2 h
        · rw [HNR.out] at h'; cases h'
        · exact h5_0 h
        · exact h5_1 h
      by_cases h6 : aft = 0
      · subst h6
        have HQ2 : Hid (ev.toList.isEmpty = q) := by show _ = _; rw [← HQ.out, if_neg hall, if_pos rfl, nz_emp]
        clear hall
        go_wp2_with fail
        refine HCALL.out _ fun w4 hb4 => ?_
        have HB4 := Lib.hid (HB2.out.trans (hb4.mono HB2.out.size))
        clear z1 z4 z5 z6 y0 y1 y2 y3 y4 y5
        obtain ⟨z1, z4, z5, z6⟩ := HBX.out w4 hb4
        obtain ⟨y0, y1, y2, y3, y4, y5⟩ := box6 HX.out (HB12.out.trans (hb4.mono HB12.out.size))
        clear hb4
        go_wp2_with fail
        go_ret
        exact ⟨ret_bool HQ2.out, HB4.out⟩
      · have HQ2 : Hid (hasB md.events ev = q) := by show _ = _; rw [← HQ.out, if_neg hall, if_neg h6]
        have e6 : (aft == 0) = false := by simpa using h6
        clear hall h6
        go_wp2_with fail
        refine HCALL.out _ fun w4 hb4 => ?_
        have HB4 := Lib.hid (HB2.out.trans (hb4.mono HB2.out.size))
        clear z1 z4 z5 z6 y0 y1 y2 y3 y4 y5
        obtain ⟨z1, z4, z5, z6⟩ := HBX.out w4 hb4
        obtain ⟨y0, y1, y2, y3, y4, y5⟩ := box6 HX.out (HB12.out.trans (hb4.mono HB12.out.size))
        clear hb4
        go_wp2_with fail
        refine (HC.out ev _ HB4.out).mono ?_
        rintro e w5 ⟨rfl, rfl⟩
        go_wp2_with fail
        go_ret
        exact ⟨ret_bool HQ2.out, HB4.out⟩
end Go.Proofs.YtfbbkmdhnkmonaaGreatDoor

namespace Go.Proofs.YtfbbkmdhnkmonaaGreatDoor
open Go.RowKit

def badAttr (a : AttrD) : Bool := decide (a.kind < 1 ∨ 3 < a.kind)
noncomputable def badPair (p : ByteArray × ByteArray) : Bool := !namedB p.1 || !namedB p.2 || p.1.toList == p.2.toList
set_option maxHeartbeats 2000000 in
set_option maxRecDepth 100000 in
theorem badAttrCl (w : World) : PredBelow Tryz.prog 46 #[] (fun x => .agg (AttrD.cs x).toArray) badAttr w := fun W x hb => by
  obtain ⟨nm, k⟩ := x
  show Calls Tryz.prog 46 #[.agg #[.string nm, .int .u8 k]] W _
  by_cases h1 : k < 1
  · have HQ : Hid (true = badAttr ⟨nm, k⟩) := by show _ = _; simp [badAttr, h1]
    go_enter Tryz.func46, Tryz.ntmps46
    go_wp2_with fail
    go_ret
    exact ⟨ret_bool HQ.out, hb.alloc hb.size _⟩
  · by_cases h2 : 3 < k
    · have HQ : Hid (true = badAttr ⟨nm, k⟩) := by show _ = _; simp [badAttr, h2]
      go_enter Tryz.func46, Tryz.ntmps46
      go_wp2_with fail
      go_ret
      exact ⟨ret_bool HQ.out, hb.alloc hb.size _⟩
    · have HQ : Hid (false = badAttr ⟨nm, k⟩) := by show _ = _; simp [badAttr, h1, h2]
      go_enter Tryz.func46, Tryz.ntmps46
      go_wp2_with fail
      go_ret
      exact ⟨ret_bool HQ.out, hb.alloc hb.size _⟩
set_option maxHeartbeats 4000000 in
set_option maxRecDepth 100000 in
theorem badPairCl (w : World) (hv : GRng w) : PredBelow Tryz.prog 50 #[] (fun x => .agg (pairC x).toArray) badPair w := fun W x hb => by
  obtain ⟨s, t⟩ := x
  show Calls Tryz.prog 50 #[.agg #[.string s, .string t]] W _
  obtain ⟨W1, hW1⟩ : ∃ W1, W.alloc (.cells #[.string s, .string t] 95) = W1 := ⟨_, rfl⟩
  have hb1 : Below W.heap.size W W1 := hW1 ▸ (Below.refl _ _).alloc (Nat.le_refl _) _
  have hx := (show Arr W1 W.heap.size 95 [.string s, .string t] from hW1 ▸ Arr.new W _ _)
  have box2 : ∀ V, Below W1.heap.size W1 V → V.cell? ⟨W.heap.size, 0, none⟩ = some (.string s) ∧ V.cell? ⟨W.heap.size, 1, none⟩ = some (.string t) := fun V h => ⟨cellBelow2 h (hx.cell (j := 0) (by simp)), cellBelow2 h (hx.cell (j := 1) (by simp))⟩
  have hbw := hb.trans (hb1.mono hb.size)
  have HN := Lib.hid (fun u V (h : Below W1.heap.size W1 V) => named_walk u V (hv.below (hbw.trans (h.mono hbw.size))))
  have HBX := Lib.hid box2
  have HB1 := Lib.hid hbw
  have HW1 := Lib.hid hW1
  obtain ⟨z0, z1⟩ := box2 W1 (Below.refl _ _)
  obtain ⟨q, hq⟩ : ∃ q, badPair (s, t) = q := ⟨_, rfl⟩
  rw [hq]
  obtain ⟨n1, hn1⟩ : ∃ n, namedB s = n := ⟨_, rfl⟩
  obtain ⟨n2, hn2⟩ : ∃ n, namedB t = n := ⟨_, rfl⟩
  have HQ : Hid ((!n1 || !n2 || s.toList == t.toList) = q) := by show _ = _; rw [← hq, ← hn1, ← hn2]; rfl
  have HN1 := Lib.hid (HN.out s W1 (Below.refl _ _))
  have HN2 := Lib.hid (fun V h => HN.out t V h)
  rw [hn1] at HN1
  simp only [hn2] at HN2
  clear hq hn1 hn2 hv hb hb1 hx box2 hbw HN hW1
  go_enter Tryz.func50, Tryz.ntmps50
  go_upto_region 1 with fail
  rw [HW1.out]
  cases n1 with
  | false =>
    go_wp2_with fail
    refine HN1.out.mono ?_
    rintro e V2 ⟨rfl, hb2⟩
    have HB2 := Lib.hid (HB1.out.trans (hb2.mono HB1.out.size))
    clear hb2 HN1
    go_wp2_with fail
    go_ret
    exact ⟨ret_bool HQ.out, HB2.out⟩
  | true =>
    go_wp2_with fail
    refine HN1.out.mono ?_
    rintro e V2 ⟨rfl, hb2⟩
    have HB12 := Lib.hid hb2
    have HB2 := Lib.hid (HB1.out.trans (hb2.mono HB1.out.size))
    clear z0 z1
    obtain ⟨z0, z1⟩ := HBX.out V2 hb2
    clear hb2 HN1
    cases n2 with
    | false =>
      go_wp2_with fail
      refine (HN2.out V2 HB12.out).mono ?_
      rintro e V3 ⟨rfl, hb3⟩
      have HB3 := Lib.hid (HB2.out.trans (hb3.mono HB2.out.size))
      clear hb3 HN2
      go_wp2_with fail
      go_ret
      exact ⟨ret_bool HQ.out, HB3.out⟩
    | true =>
      go_wp2_with fail
      refine (HN2.out V2 HB12.out).mono ?_
      rintro e V3 ⟨rfl, hb3⟩
      have HB3 := Lib.hid (HB2.out.trans (hb3.mono HB2.out.size))
      clear z0 z1
      obtain ⟨z0, z1⟩ := HBX.out V3 (HB12.out.trans (hb3.mono HB12.out.size))
      clear hb3 HN2
      go_wp2_with fail
      go_ret
      exact ⟨ret_bool HQ.out, HB3.out⟩
/-! What stands at places. -/
theorem senAt_in {md : ModelD} {p : Pl} {s : SentryD} (h : senAt md p = some s) : (∃ x ∈ md.stages, s ∈ x.opens ∨ s ∈ x.closes) ∨ ∃ x ∈ md.stones, s ∈ x.done ∨ s ∈ x.undo := by
  unfold senAt at h
  split at h
  · cases h
  · have hm := List.mem_of_getElem? h
    unfold senL at hm
    have key : ∀ {α : Type} (l : List α) (f : α → List SentryD), s ∈ ((l[p.2.1.toNat]?.map f).getD []) → ∃ x ∈ l, s ∈ f x := by
      intro α l f h
      cases hl : l[p.2.1.toNat]? with
      | none => rw [hl] at h; simp at h
      | some x => rw [hl] at h; exact ⟨x, List.mem_of_getElem? hl, by simpa using h⟩
    split at hm
    · cases hm
    · split at hm
      · obtain ⟨x, h1, h2⟩ := key _ _ hm; exact .inl ⟨x, h1, .inl h2⟩
      · split at hm
        · obtain ⟨x, h1, h2⟩ := key _ _ hm; exact .inl ⟨x, h1, .inr h2⟩
        · split at hm
          · obtain ⟨x, h1, h2⟩ := key _ _ hm; exact .inr ⟨x, h1, .inl h2⟩
          · split at hm
            · obtain ⟨x, h1, h2⟩ := key _ _ hm; exact .inr ⟨x, h1, .inr h2⟩
            · cases hm
theorem in_senAt {md : ModelD} {s : SentryD} (h : (∃ x ∈ md.stages, s ∈ x.opens ∨ s ∈ x.closes) ∨ ∃ x ∈ md.stones, s ∈ x.done ∨ s ∈ x.undo) : ∃ p, senAt md p = some s := by
  have key : ∀ (k : Int) (n : Nat) (l : List SentryD), senL md k (n : Int) = l → s ∈ l → ∃ p, senAt md p = some s := by
    intro k n l hl hs
    obtain ⟨i, hi, he⟩ := List.mem_iff_getElem.1 hs
    refine ⟨(k, (n : Int), (i : Int)), ?_⟩
    unfold senAt
    rw [if_neg (by simp), hl, Int.toNat_natCast, List.getElem?_eq_getElem hi, he]
  rcases h with ⟨x, hx, h | h⟩ | ⟨x, hx, h | h⟩
  all_goals obtain ⟨n, hn, rfl⟩ := List.mem_iff_getElem.1 hx
  · exact key 1 n _ (senL_stage hn).1 h
  · exact key 2 n _ (senL_stage hn).2 h
  · exact key 3 n _ (senL_stone hn).1 h
  · exact key 4 n _ (senL_stone hn).2 h
theorem sen_all (md : ModelD) (P : SentryD → Bool) : ((md.stages.all fun s => s.opens.all P && s.closes.all P) = true ∧ (md.stones.all fun s => s.done.all P && s.undo.all P) = true) ↔ ∀ p s, senAt md p = some s → P s = true := by
  simp only [List.all_eq_true, Bool.and_eq_true]
  constructor
  · rintro ⟨h1, h2⟩ p s hs
    rcases senAt_in hs with ⟨x, hx, h | h⟩ | ⟨x, hx, h | h⟩
    · exact (h1 x hx).1 s h
    · exact (h1 x hx).2 s h
    · exact (h2 x hx).1 s h
    · exact (h2 x hx).2 s h
  · intro h
    refine ⟨fun x hx => ⟨fun s hs => ?_, fun s hs => ?_⟩, fun x hx => ⟨fun s hs => ?_, fun s hs => ?_⟩⟩
    · obtain ⟨p, hp⟩ := in_senAt (md := md) (.inl ⟨x, hx, .inl hs⟩); exact h p s hp
    · obtain ⟨p, hp⟩ := in_senAt (md := md) (.inl ⟨x, hx, .inr hs⟩); exact h p s hp
    · obtain ⟨p, hp⟩ := in_senAt (md := md) (.inr ⟨x, hx, .inl hs⟩); exact h p s hp
    · obtain ⟨p, hp⟩ := in_senAt (md := md) (.inr ⟨x, hx, .inr hs⟩); exact h p s hp
/-- what built asks, limb by limb -/
structure Built (md : ModelD) : Prop where
  attrs : rowB (md.attrs.map AttrD.name) = true
  both : rowB (md.events ++ md.stages.map StageD.name) = true
  stones : rowB (md.stones.map StoneD.name) = true
  kinds : md.attrs.any badAttr = false
  staged : ∀ n (h : n < md.stages.length), stagedB md n md.stages[n] = true
  sen : ∀ p s, senAt md p = some s → sentryB md s = true
  apart : md.apart.any badPair = false
theorem builtB_iff (md : ModelD) : builtB md = true ↔ Built md := by
  have hs : (List.range md.stages.length).all (fun n => match md.stages[n]? with | none => true | some s => stagedB md n s) = true ↔ ∀ n (h : n < md.stages.length), stagedB md n md.stages[n] = true := by
    rw [List.all_eq_true]
    constructor
    · intro h n hn
      have := h n (List.mem_range.2 hn)
      rwa [List.getElem?_eq_getElem hn] at this
    · intro h n hn
      have hn := List.mem_range.1 hn
      rw [List.getElem?_eq_getElem hn]
      exact h n hn
  unfold builtB
  simp only [Bool.and_eq_true, Bool.not_eq_true']
  constructor
  · rintro ⟨⟨⟨⟨⟨⟨⟨h1, h2⟩, h3⟩, h4⟩, h5⟩, h6⟩, h7⟩, h8⟩
    exact ⟨h1, h2, h3, h4, hs.1 h5, (sen_all md _).1 ⟨h6, h7⟩, h8⟩
  · intro h
    obtain ⟨h6, h7⟩ := (sen_all md _).2 h.sen
    exact ⟨⟨⟨⟨⟨⟨⟨h.attrs, h.both⟩, h.stones⟩, h.kinds⟩, hs.2 h.staged⟩, h6⟩, h7⟩, h.apart⟩
theorem builtB_no {md : ModelD} (h : ¬ Built md) : builtB md = false := by
  cases hb : builtB md with
  | false => rfl
  | true => exact absurd ((builtB_iff md).1 hb) h
end Go.Proofs.YtfbbkmdhnkmonaaGreatDoor
