/- package model: places: what put lays. package model: events, sentry. slices.Compare at numbers; the comparison of places. slices.SortFunc on places. -/
import Derived.Test.YtfbbkmdhnkmonaaGreatDoorChecked
import Derived.Test.YtfbbkmdhnkmonaaGreatDoorS11
import Derived.Test.YtfbbkmdhnkmonaaGreatDoorS10
import Derived.Sort.Walk0
import Derived.Sort.Statements
import Derived.Test.YtfbbkmdhnkmonaaGreatDoorSort0
namespace Go.Proofs.YtfbbkmdhnkmonaaGreatDoor
open Go.RowKit

theorem okPl_mk {k n m : Int} (h1 : -1000000 ≤ k ∧ k ≤ 1000000) (h2 : -1000000 ≤ n ∧ n ≤ 1000000) (h3 : -1000000 ≤ m ∧ m ≤ 1000000) : okPl (k, n, m) := ⟨h1, h2, h3⟩
def senV (s : SentryD) : Value := .agg #[.int .u8 s.on, .string s.name, .string s.cond]
/-- what a list lays at a place -/
def putsAt (k n : Int) (l : List SentryD) (p : Pl) : Option Value := if p.1 = k ∧ p.2.1 = n ∧ 0 ≤ p.2.2 then (l[p.2.2.toNat]?).map senV else none
theorem putsAt_succ (k n : Int) (l : List SentryD) (m : Nat) (h : m < l.length) (p : Pl) : putsAt k n (l.take (m + 1)) p = if (k, n, (m : Int)) = p then some (senV l[m]) else putsAt k n (l.take m) p := by
  obtain ⟨a, b, c⟩ := p
  simp only [putsAt, Prod.mk.injEq]
  by_cases h1 : a = k ∧ b = n ∧ 0 ≤ c
  · obtain ⟨rfl, rfl, h3⟩ := h1
    simp only [true_and, h3, if_true]
    rw [List.take_succ_eq_append_getElem h]
    by_cases h2 : (m : Int) = c
    · subst h2
      simp
      exact ⟨_, List.getElem?_eq_getElem h, rfl⟩
    · simp only [h2, if_false]
      rcases Nat.lt_or_ge c.toNat m with h4 | h4
      · rw [List.getElem?_append_left (by simp; omega)]
      · rw [List.getElem?_eq_none (by simp; omega), List.getElem?_eq_none (by simp; omega)]
  · rw [if_neg h1, if_neg h1, if_neg (by rintro ⟨rfl, rfl, rfl⟩; exact h1 ⟨rfl, rfl, by omega⟩)]
theorem putsAt_nil (k n : Int) (p : Pl) : putsAt k n [] p = none := by simp [putsAt]
/-- the cells of memory that lie elsewhere -/
theorem grown_cell {w w' : World} {M : Nat} (h : w.grownBy w' (some M)) {a : Addr} {v : Value} (hc : w.cell? a = some v) (hm : ∃ cl es, w.heap[M]? = some (.map es cl)) : w'.cell? a = some v := by
  obtain ⟨cl, es, hm⟩ := hm
  have hlt := World.block_lt_of_cell? w a hc
  have hne : a.block ≠ M := by
    intro e
    unfold World.cell? at hc
    rw [e, hm] at hc
    cases hc
  rw [World.cell?_of_block (h.block a.block hlt (fun e => hne (Option.some.inj e)))]
  exact hc
theorem KM.MapIs.isMap {κ : Type} {val : κ → Value} {ok : κ → Prop} {w : World} {b : Nat} {ents : KM.Ents κ} (h : KM.MapIs val ok w b ents) : ∃ cl es, w.heap[b]? = some (.map es cl) := ⟨_, _, h.heap⟩
/-- how put ends -/
def PutEnd (k n : Int) (l : List SentryD) (M : Nat) (ents : KM.Ents Pl) (w : World) (e : Ending) (w' : World) : Prop :=
  e = .returned (.tuple #[]) ∧ ∃ ents', KM.MapIs plV okPl w' M ents' ∧ w.grownBy w' (some M) ∧ ∀ p, KM.getM ents' p = (putsAt k n l p).or (KM.getM ents p)
set_option maxHeartbeats 4000000 in
set_option maxRecDepth 100000 in
theorem put_walk (k n : Int) (l : List SentryD) (a : Option Addr) (c B M : Nat) (ents : KM.Ents Pl) (w : World) (hk : 0 ≤ k ∧ k ≤ 10) (hn : 0 ≤ n ∧ n ≤ 1000) (hl : l.length ≤ 1000) (hB : w.cell? ⟨B, 0, none⟩ = some (.map (some M))) (hM : KM.MapIs plV okPl w M ents)
    (h : Mem false (From 0) w (senD l) (.slice a l.length c)) : Calls Tryz.prog 29 #[.int .i64 k, .int .i64 n, .slice a l.length c, .pointer (some ⟨B, 0, none⟩)] w (PutEnd k n l M ents w) := by
  obtain ⟨_, _, b, off, hv, -, hC⟩ := flat_open h
  injection hv with e1 e2 e3
  subst e1 e3
  have HC := Lib.hid hC
  have HB := Lib.hid hB
  have HI := Lib.hid hM.isMap
  generalize hQ : PutEnd k n l M ents w = Q
  have HQ := Lib.hid hQ
  clear h hC hQ e2 hB
  go_enter Tryz.func29, Tryz.ntmps29
  go_wp2_with fail
  go_loopw [11] (fun i wr => ∃ m : Nat, m ≤ l.length ∧ i = .int .i64 (m : Int) ∧ Hid (∃ ents', KM.MapIs plV okPl wr M ents' ∧ ∀ p, KM.getM ents' p = (putsAt k n (l.take m) p).or (KM.getM ents p)) ∧ Hid (w.grownBy wr (some M))) (fun i _ => l.length - (intOf i).toNat)
  case atStart => exact ⟨0, Nat.zero_le _, rfl, ⟨ents, hM, fun p => by rw [List.take_zero, putsAt_nil]; rfl⟩, World.grownBy.refl _ _⟩
  case round =>
    obtain ⟨m, hml, rfl, HE, HG⟩ := hrel
    by_cases hlt : m < l.length
    · have i1 : (m : Int) < (l.length : Int) := by omega
      have i2 : (0 : Int) ≤ (m : Int) := by omega
      have HML := Lib.hid hlt
      obtain ⟨rfl, -, hbl⟩ := HC.out.at0 (by omega)
      have cb : ∀ i u, (SentryD.cs l[m])[i]? = some u → wr.cell? ⟨b, off + m * 3 + i, none⟩ = some u := fun i u hi => grown_cell HG.out (HC.out.cell m hlt i u hi) HI.out
      have c0 : wr.cell? ⟨b, off + m * 3, none⟩ = some (.int .u8 l[m].on) := cb 0 _ rfl
      have c1 : wr.cell? ⟨b, off + m * 3 + 1, none⟩ = some (.string l[m].name) := cb 1 _ rfl
      have c2 : wr.cell? ⟨b, off + m * 3 + 2, none⟩ = some (.string l[m].cond) := cb 2 _ rfl
      have cB : wr.cell? ⟨B, 0, none⟩ = some (.map (some M)) := grown_cell HG.out HB.out HI.out
      obtain ⟨ents1, hM1, hE1⟩ := HE.out
      have hBl := World.block_lt_of_cell? wr _ cB
      have cB2 : (wr.alloc (.cells #[.int .u8 l[m].on, .string l[m].name, .string l[m].cond] 35)).cell? ⟨B, 0, none⟩ = some (.map (some M)) := Lib.cell?_alloc_some _ cB
      have hok : okPl (k, n, (m : Int)) := okPl_mk (by omega) (by omega) (by omega)
      obtain ⟨w2, hu, hM2, hg2, hz2⟩ := (hM1.alloc (.cells #[.int .u8 l[m].on, .string l[m].name, .string l[m].cond] 35)).update Tryz.underlying51 plEnc hok (senV l[m])
      have wr1 : IntKind.i64.wrap ((m : Int) + 1) = (m : Int) + 1 := wrap_i64 (by omega) (by omega)
      have HG2 : Hid (w.grownBy w2 (some M)) := (HG.out.trans (World.grownBy_alloc _ _ _)).trans hg2
      have HM2 : Hid (KM.MapIs plV okPl w2 M (KM.putM ents1 (k, n, (m : Int)) (senV l[m]))) := hM2
      have HE1 := Lib.hid hE1
      simp only [plV, senV] at hu
      clear hM1 hE1 hM2 hg2 hz2 cb hok
      go_wp2_with fail
      refine ⟨⟨m + 1, by omega, by go_num, ?_, HG2⟩, by simp only [intOf]; have := HML.out; omega⟩
      refine ⟨_, HM2.out, fun p => ?_⟩
      rw [KM.getM_putM, HE1.out p, putsAt_succ k n l m HML.out p]
      by_cases hp : (k, n, (m : Int)) = p
      · rw [if_pos hp, if_pos hp]; rfl
      · rw [if_neg hp, if_neg hp]
    · obtain rfl : m = l.length := by omega
      have i1 : ¬ (l.length : Int) < (l.length : Int) := by omega
      obtain ⟨ents1, hM1, hE1⟩ := HE.out
      rw [List.take_length] at hE1
      have HM1 := Lib.hid hM1
      have HE1 := Lib.hid hE1
      clear hM1 hE1
      go_wp2_with fail
      refine bodyPost_end (v := .tuple #[]) (by simp [results, Tryz.results29]) rfl ?_
      rw [← HQ.out]
      exact ⟨rfl, ents1, HM1.out, HG.out, HE1.out⟩
end Go.Proofs.YtfbbkmdhnkmonaaGreatDoor

namespace Go.Proofs.YtfbbkmdhnkmonaaGreatDoor
open Go.RowKit

/-- the cells of one stage -/
theorem stage_at {md : ModelD} {v : ModelV} {w : World} (h : ModelM false (From 0) w md v) {m : Nat} (hm : m < md.stages.length) : ∃ b off, v.a3 = some ⟨b, off, none⟩ ∧ b < w.heap.size ∧ ∃ d1 e1 d2 e2,
    Mem false (From 0) w (senD md.stages[m].opens) (.slice d1 md.stages[m].opens.length e1) ∧ Mem false (From 0) w (senD md.stages[m].closes) (.slice d2 md.stages[m].closes.length e2) ∧
    w.cell? ⟨b, off + m * 7, none⟩ = some (.string md.stages[m].name) ∧ w.cell? ⟨b, off + m * 7 + 1, none⟩ = some (.int .i64 md.stages[m].inn) ∧ w.cell? ⟨b, off + m * 7 + 2, none⟩ = some (.slice d1 md.stages[m].opens.length e1) ∧
    w.cell? ⟨b, off + m * 7 + 3, none⟩ = some (.slice d2 md.stages[m].closes.length e2) ∧ w.cell? ⟨b, off + m * 7 + 4, none⟩ = some (.string md.stages[m].role) ∧ w.cell? ⟨b, off + m * 7 + 5, none⟩ = some (.int .i64 md.stages[m].aft) ∧ w.cell? ⟨b, off + m * 7 + 6, none⟩ = some (.string md.stages[m].event) := by
  obtain ⟨_, _, b, off, hv, -, hC⟩ := rec_open h.stages
  injection hv with e1 e2 e3
  subst e1 e3
  obtain ⟨ha, -, hbl⟩ := hC.at0 (by omega)
  obtain ⟨us, hus, hcell⟩ := hC.row m hm
  obtain ⟨d1, e1, d2, e2, hu, m1, m2⟩ := StageD.cells hus
  subst hu
  exact ⟨b, off, ha, hbl, d1, e1, d2, e2, m1, m2, hcell 0 _ rfl, hcell 1 _ rfl, hcell 2 _ rfl, hcell 3 _ rfl, hcell 4 _ rfl, hcell 5 _ rfl, hcell 6 _ rfl⟩
/-- the cells of one stone -/
theorem stone_at {md : ModelD} {v : ModelV} {w : World} (h : ModelM false (From 0) w md v) {m : Nat} (hm : m < md.stones.length) : ∃ b off, v.a4 = some ⟨b, off, none⟩ ∧ b < w.heap.size ∧ ∃ d1 e1 d2 e2,
    Mem false (From 0) w (senD md.stones[m].done) (.slice d1 md.stones[m].done.length e1) ∧ Mem false (From 0) w (senD md.stones[m].undo) (.slice d2 md.stones[m].undo.length e2) ∧
    w.cell? ⟨b, off + m * 3, none⟩ = some (.string md.stones[m].name) ∧ w.cell? ⟨b, off + m * 3 + 1, none⟩ = some (.slice d1 md.stones[m].done.length e1) ∧ w.cell? ⟨b, off + m * 3 + 2, none⟩ = some (.slice d2 md.stones[m].undo.length e2) := by
  obtain ⟨_, _, b, off, hv, -, hC⟩ := rec_open h.stones
  injection hv with e1 e2 e3
  subst e1 e3
  obtain ⟨ha, -, hbl⟩ := hC.at0 (by omega)
  obtain ⟨us, hus, hcell⟩ := hC.row m hm
  obtain ⟨d1, e1, d2, e2, hu, m1, m2⟩ := StoneD.cells hus
  subst hu
  exact ⟨b, off, ha, hbl, d1, e1, d2, e2, m1, m2, hcell 0 _ rfl, hcell 1 _ rfl, hcell 2 _ rfl⟩
theorem nz_ne {s : ByteArray} : (s.toList != []) = decide (s.size ≠ 0) ∧ (s.toList == []) = decide (s.size = 0) := by
  rcases nz_list (s := s) with ⟨h1, h2⟩ | ⟨h1, h2⟩
  · rw [bne, h2, h1]; exact ⟨rfl, rfl⟩
  · have : s.size ≠ 0 := fun h => h1 (size_zero.1 h)
    rw [bne, h2]; simp [this]
theorem nz_emp {s : ByteArray} : s.toList.isEmpty = decide (s.size = 0) := by
  rw [← nz_ne.2]
  cases s.toList <;> rfl
theorem eventB_yes {md : ModelD} {s : ByteArray} (h : hasB md.events s = true) : eventB md s = true := by unfold eventB; rw [h]; rfl
theorem eventB_neg {md : ModelD} {s : ByteArray} (h : hasB md.events s = false) (h1 : stageIx md s < 0) : eventB md s = false := by
  unfold eventB; rw [h]; simp; omega
theorem eventB_at {md : ModelD} {s : ByteArray} {m : Nat} (h : hasB md.events s = false) (h1 : stageIx md s = m) (hm : m < md.stages.length) : eventB md s = decide (md.stages[m].role.size ≠ 0) := by
  unfold eventB
  have hg : md.stages[m]? = some md.stages[m] := List.getElem?_eq_getElem hm
  have h2 : (0 : Int) ≤ (m : Int) := by omega
  simp only [h, h1, Int.toNat_natCast, hg, Bool.false_or, h2, decide_true, Bool.true_and]
set_option maxHeartbeats 4000000 in
set_option maxRecDepth 100000 in
theorem events_walk (md : ModelD) (v : ModelV) (s : ByteArray) (w : World) (hz : md.Sml) (hM : ModelM false (From 0) w md v) :
    Calls Tryz.prog 89 #[.agg (v.cs md).toArray, .string s] w (fun e w' => e = .returned (.bool (eventB md s)) ∧ Below w.heap.size w w') := by
  obtain ⟨q, hq⟩ : ∃ q, eventB md s = q := ⟨_, rfl⟩
  rw [hq]
  obtain ⟨w1, hw1⟩ : ∃ w1, w.alloc (.cells (v.cs md).toArray 31) = w1 := ⟨_, rfl⟩
  have hb1 : Below w.heap.size w w1 := hw1 ▸ (Below.refl _ _).alloc (Nat.le_refl _) _
  have hx1 : Arr w1 w.heap.size 31 (v.cs md) := hw1 ▸ Arr.new w (v.cs md) _
  have HS := Lib.hid (modelStage md v s w1 hz.stages (hM.grow hb1))
  have HC := Lib.hid (fun W (hb : Below w.heap.size w W) => inStrs W.heap.size _ md.events s W (by have := hz.events; omega) (strD_strs (hM.grow hb).events))
  have HX := Lib.hid hx1
  have HB1 := Lib.hid hb1
  have HW1 := Lib.hid hw1
  have HM := Lib.hid hM
  have HQ := Lib.hid hq
  obtain ⟨i, hi⟩ : ∃ i, stageIx md s = i := ⟨_, rfl⟩
  have hile := stageIx_le md s
  rw [hi] at HS hile
  have HI := Lib.hid hi
  obtain ⟨h, hh⟩ : ∃ h, hasB md.events s = h := ⟨_, rfl⟩
  rw [hh] at HC
  have HH := Lib.hid hh
  obtain ⟨y0, y1, y2, y3, y4, y5⟩ := box6 hx1 (Below.refl _ _)
  clear hq hM hb1 hx1 hw1 hi hh hz
  go_enter Tryz.func89, Tryz.ntmps89
  go_upto_region 1 with fail
  rw [HW1.out]
  go_wp2_with fail
  refine HS.out.mono ?_
  rintro e w2 ⟨rfl, hb2⟩
  have HB2 := Lib.hid (HB1.out.trans (hb2.mono HB1.out.size))
  clear y0 y1 y2 y3 y4 y5 HS
  obtain ⟨y0, y1, y2, y3, y4, y5⟩ := box6 HX.out hb2
  have HC2 := Lib.hid (HC.out w2 HB2.out)
  clear hb2 HC
  cases h with
  | true =>
    have HQ2 : Hid (true = q) := by show _ = _; rw [← HQ.out, eventB_yes HH.out]
    go_wp2_with fail
    refine HC2.out.mono ?_
    rintro e w3 ⟨rfl, rfl⟩
    go_wp2_with fail
    go_ret
    exact ⟨ret_bool HQ2.out, HB2.out⟩
  | false =>
    by_cases hneg : i < 0
    · have HQ2 : Hid (false = q) := by show _ = _; rw [← HQ.out, eventB_neg HH.out (by rw [HI.out]; exact hneg)]
      have i1 : ¬ (0 : Int) ≤ i := by omega
      go_wp2_with fail
      refine HC2.out.mono ?_
      rintro e w3 ⟨rfl, rfl⟩
      go_wp2_with fail
      go_ret
      exact ⟨ret_bool HQ2.out, HB2.out⟩
    · obtain ⟨m, rfl⟩ : ∃ m : Nat, i = m := ⟨i.toNat, by omega⟩
      have hml : m < md.stages.length := by omega
      have i1 : (0 : Int) ≤ (m : Int) := by omega
      have i2 : (m : Int) < (md.stages.length : Int) := by omega
      obtain ⟨b, off, ha, hbl, d1, e1, d2, e2, -, -, -, -, -, -, c4, -, -⟩ := stage_at (HM.out.grow HB2.out) hml
      have HQ2 : Hid ((!md.stages[m].role.toList.isEmpty) = q) := by show _ = _; rw [← HQ.out, eventB_at HH.out HI.out hml, nz_emp]; simp
      rw [ha] at y3
      obtain ⟨x, hx⟩ : ∃ x, md.stages[m].role = x := ⟨_, rfl⟩
      rw [hx] at c4 HQ2
      clear ha hx HQ HI HH HM
      go_wp2_with fail
      refine HC2.out.mono ?_
      rintro e w3 ⟨rfl, rfl⟩
      go_wp2_with fail
      go_ret
      exact ⟨ret_bool HQ2.out, HB2.out⟩
/-- what a sentry waits for is there -/
def thereB (md : ModelD) (s : SentryD) : Bool := if s.on = 0 then decide (s.name.size = 0) else if s.on = 1 then eventB md s.name else if s.on = 2 ∨ s.on = 3 then decide (0 ≤ stageIx md s.name) else if s.on = 4 ∨ s.on = 5 then decide (0 ≤ stoneIx md s.name) else false
theorem sentryB_eq (md : ModelD) (s : SentryD) : sentryB md s = (thereB md s && truthB md s.cond) := rfl
set_option maxHeartbeats 8000000 in
set_option maxRecDepth 100000 in
theorem sentry_walk (md : ModelD) (v : ModelV) (s : SentryD) (w : World) (hz : md.Sml) (hM : ModelM false (From 0) w md v) (hv : GRng w) :
    Calls Tryz.prog 48 #[.agg (v.cs md).toArray, senV s] w (fun e w' => e = .returned (.bool (sentryB md s)) ∧ Below w.heap.size w w') := by
  obtain ⟨on, name, cond⟩ := s
  rw [sentryB_eq]
  obtain ⟨w0, hw0⟩ : ∃ w0, w.alloc (.cells (v.cs md).toArray 31) = w0 := ⟨_, rfl⟩
  obtain ⟨w1, hw1⟩ : ∃ w1, w0.alloc (.cells #[.int .u8 on, .string name, .string cond] 35) = w1 := ⟨_, rfl⟩
  have hz0 : w0.heap.size = w.heap.size + 1 := by rw [← hw0, size_alloc]
  have hb0 : Below w.heap.size w w0 := hw0 ▸ (Below.refl _ _).alloc (Nat.le_refl _) _
  have hb01 : Below w0.heap.size w0 w1 := hw1 ▸ (Below.refl _ _).alloc (Nat.le_refl _) _
  have hb1 : Below w.heap.size w w1 := hb0.trans (hb01.mono hb0.size)
  have hX : Arr w1 w.heap.size 31 (v.cs md) := hw1 ▸ (show Arr w0 _ _ _ from hw0 ▸ Arr.new w _ _).alloc _
  have hS : Arr w1 (w.heap.size + 1) 35 [.int .u8 on, .string name, .string cond] := by
    have := Arr.new w0 [.int .u8 on, .string name, .string cond] 35
    rw [hz0] at this
    exact hw1 ▸ this
  have HW : Hid ((w.alloc (.cells (v.cs md).toArray 31)).alloc (.cells #[.int .u8 on, .string name, .string cond] 35) = w1) := by
    show _ = _
    rw [hw0]; exact hw1
  have box3 : ∀ W, Below w1.heap.size w1 W → W.cell? ⟨w.heap.size + 1, 0, none⟩ = some (.int .u8 on) ∧ W.cell? ⟨w.heap.size + 1, 1, none⟩ = some (.string name) ∧ W.cell? ⟨w.heap.size + 1, 2, none⟩ = some (.string cond) := fun W hb =>
    ⟨cellBelow2 hb (hS.cell (j := 0) (by simp)), cellBelow2 hb (hS.cell (j := 1) (by simp)), cellBelow2 hb (hS.cell (j := 2) (by simp))⟩
  have HT := Lib.hid (fun W (hb : Below w1.heap.size w1 W) => truth_walk md v cond W hz (hM.grow (hb1.trans (hb.mono hb1.size))) (hv.below (hb1.trans (hb.mono hb1.size))))
  have HE := Lib.hid (events_walk md v name w1 hz (hM.grow hb1))
  have HSt := Lib.hid (modelStage md v name w1 hz.stages (hM.grow hb1))
  have HSo := Lib.hid (modelStone md v name w1 hz.stones (hM.grow hb1))
  have HX := Lib.hid hX
  have HB1 := Lib.hid hb1
  have HB3 := Lib.hid box3
  obtain ⟨y0, y1, y2, y3, y4, y5⟩ := box6 hX (Below.refl _ _)
  obtain ⟨z0, z1, z2⟩ := box3 w1 (Below.refl _ _)
  obtain ⟨T, hT⟩ : ∃ T, truthB md cond = T := ⟨_, rfl⟩
  simp only [hT] at HT ⊢
  obtain ⟨q, hq⟩ : ∃ q, thereB md ⟨on, name, cond⟩ = q := ⟨_, rfl⟩
  rw [hq]
  have HQ := Lib.hid hq
  clear hM hv hz hb0 hb01 hb1 hX hS hw0 hw1 hz0 hT hq box3
  -- what stands behind the switch
  simp only [senV]
  have : on = 0 ∨ on = 1 ∨ on = 2 ∨ on = 3 ∨ on = 4 ∨ on = 5 ∨ (on ≠ 0 ∧ on ≠ 1 ∧ on ≠ 2 ∧ on ≠ 3 ∧ on ≠ 4 ∧ on ≠ 5) := by omega
  rcases this with rfl | rfl | rfl | rfl | rfl | rfl | ⟨n0, n1, n2, n3, n4, n5⟩
  · rcases nz_list (s := name) with ⟨h1, h2⟩ | ⟨h1, h2⟩
    · have HQ2 : Hid (q = true) := by
        show _ = _
        rw [← HQ.out]
        simp only [thereB, if_true, size_zero.2 h1, decide_true]
      clear HQ h1 HE HSt HSo
      go_enter Tryz.func48, Tryz.ntmps48
      go_upto_region 1 with fail
      rw [HW.out]
      go_wp2_with fail
      refine (HT.out _ (Below.refl _ _)).mono ?_
      rintro e w4 ⟨rfl, hb4⟩
      have HB4 := Lib.hid (HB1.out.trans (hb4.mono HB1.out.size))
      clear hb4 HT
      go_wp2_with fail
      go_ret
      exact ⟨ret_bool (by rw [HQ2.out]; simp), HB4.out⟩
    · have HQ2 : Hid (q = false) := by
        show _ = _
        rw [← HQ.out]
        have hz0 : ¬ name.size = 0 := fun h => h1 (size_zero.1 h)
        simp only [thereB, if_true, hz0, decide_false]
      clear HQ h1 HE HSt HSo
      go_enter Tryz.func48, Tryz.ntmps48
      go_upto_region 1 with fail
      rw [HW.out]
      go_wp2_with fail
      go_ret
      exact ⟨ret_bool (by rw [HQ2.out]; simp), HB1.out⟩
  · obtain ⟨z, hzq⟩ : ∃ z, eventB md name = z := ⟨_, rfl⟩
    have HQ1 : Hid (q = z) := by
      show _ = _
      rw [← HQ.out, ← hzq]
      simp [thereB]
    rw [hzq] at HE
    clear HQ hzq HSt HSo
    go_enter Tryz.func48, Tryz.ntmps48
    go_upto_region 1 with fail
    rw [HW.out]
    go_wp2_with fail
    refine HE.out.mono ?_
    rintro e w2 ⟨rfl, hb2⟩
    have HB2 := Lib.hid (HB1.out.trans (hb2.mono HB1.out.size))
    have HB12 := Lib.hid hb2
    clear y0 y1 y2 y3 y4 y5 z0 z1 z2 HE
    obtain ⟨y0, y1, y2, y3, y4, y5⟩ := box6 HX.out hb2
    obtain ⟨z0, z1, z2⟩ := HB3.out w2 hb2
    clear hb2
    cases z with
    | true =>
      have HQ2 : Hid (q = true) := HQ1.out
      go_wp2_with fail
      refine (HT.out _ HB12.out).mono ?_
      rintro e w4 ⟨rfl, hb4⟩
      have HB4 := Lib.hid (HB2.out.trans (hb4.mono HB2.out.size))
      clear hb4 HT
      go_wp2_with fail
      go_ret
      exact ⟨ret_bool (by rw [HQ2.out]; simp), HB4.out⟩
    | false =>
      have HQ2 : Hid (q = false) := HQ1.out
      go_wp2_with fail
      go_ret
      exact ⟨ret_bool (by rw [HQ2.out]; simp), HB2.out⟩
  · obtain ⟨z, hzq⟩ : ∃ z, stageIx md name = z := ⟨_, rfl⟩
    have HQ1 : Hid (q = decide (0 ≤ z)) := by
      show _ = _
      rw [← HQ.out, ← hzq]
      simp [thereB]
    rw [hzq] at HSt
    clear HQ hzq HE HSo
    go_enter Tryz.func48, Tryz.ntmps48
    go_upto_region 1 with fail
    rw [HW.out]
    go_wp2_with fail
    refine HSt.out.mono ?_
    rintro e w2 ⟨rfl, hb2⟩
    have HB2 := Lib.hid (HB1.out.trans (hb2.mono HB1.out.size))
    have HB12 := Lib.hid hb2
    clear y0 y1 y2 y3 y4 y5 z0 z1 z2 HSt
    obtain ⟨y0, y1, y2, y3, y4, y5⟩ := box6 HX.out hb2
    obtain ⟨z0, z1, z2⟩ := HB3.out w2 hb2
    clear hb2
    by_cases hz0 : 0 ≤ z
    · have HQ2 : Hid (q = true) := by show _ = _; rw [HQ1.out]; simp [hz0]
      go_wp2_with fail
      refine (HT.out _ HB12.out).mono ?_
      rintro e w4 ⟨rfl, hb4⟩
      have HB4 := Lib.hid (HB2.out.trans (hb4.mono HB2.out.size))
      clear hb4 HT
      go_wp2_with fail
      go_ret
      exact ⟨ret_bool (by rw [HQ2.out]; simp), HB4.out⟩
    · have HQ2 : Hid (q = false) := by show _ = _; rw [HQ1.out]; simp [hz0]
      go_wp2_with fail
      go_ret
      exact ⟨ret_bool (by rw [HQ2.out]; simp), HB2.out⟩
  · obtain ⟨z, hzq⟩ : ∃ z, stageIx md name = z := ⟨_, rfl⟩
    have HQ1 : Hid (q = decide (0 ≤ z)) := by
      show _ = _
      rw [← HQ.out, ← hzq]
      simp [thereB]
    rw [hzq] at HSt
    clear HQ hzq HE HSo
    go_enter Tryz.func48, Tryz.ntmps48
    go_upto_region 1 with fail
    rw [HW.out]
    go_wp2_with fail
    refine HSt.out.mono ?_
    rintro e w2 ⟨rfl, hb2⟩
    have HB2 := Lib.hid (HB1.out.trans (hb2.mono HB1.out.size))
    have HB12 := Lib.hid hb2
    clear y0 y1 y2 y3 y4 y5 z0 z1 z2 HSt
    obtain ⟨y0, y1, y2, y3, y4, y5⟩ := box6 HX.out hb2
    obtain ⟨z0, z1, z2⟩ := HB3.out w2 hb2
    clear hb2
    by_cases hz0 : 0 ≤ z
    · have HQ2 : Hid (q = true) := by show _ = _; rw [HQ1.out]; simp [hz0]
      go_wp2_with fail
      refine (HT.out _ HB12.out).mono ?_
      rintro e w4 ⟨rfl, hb4⟩
      have HB4 := Lib.hid (HB2.out.trans (hb4.mono HB2.out.size))
      clear hb4 HT
      go_wp2_with fail
      go_ret
      exact ⟨ret_bool (by rw [HQ2.out]; simp), HB4.out⟩
    · have HQ2 : Hid (q = false) := by show _ = _; rw [HQ1.out]; simp [hz0]
      go_wp2_with fail
      go_ret
      exact ⟨ret_bool (by rw [HQ2.out]; simp), HB2.out⟩
  · obtain ⟨z, hzq⟩ : ∃ z, stoneIx md name = z := ⟨_, rfl⟩
    have HQ1 : Hid (q = decide (0 ≤ z)) := by
      show _ = _
      rw [← HQ.out, ← hzq]
      simp [thereB]
    rw [hzq] at HSo
    clear HQ hzq HE HSt
    go_enter Tryz.func48, Tryz.ntmps48
    go_upto_region 1 with fail
    rw [HW.out]
    go_wp2_with fail
    refine HSo.out.mono ?_
    rintro e w2 ⟨rfl, hb2⟩
    have HB2 := Lib.hid (HB1.out.trans (hb2.mono HB1.out.size))
    have HB12 := Lib.hid hb2
    clear y0 y1 y2 y3 y4 y5 z0 z1 z2 HSo
    obtain ⟨y0, y1, y2, y3, y4, y5⟩ := box6 HX.out hb2
    obtain ⟨z0, z1, z2⟩ := HB3.out w2 hb2
    clear hb2
    by_cases hz0 : 0 ≤ z
    · have HQ2 : Hid (q = true) := by show _ = _; rw [HQ1.out]; simp [hz0]
      go_wp2_with fail
      refine (HT.out _ HB12.out).mono ?_
      rintro e w4 ⟨rfl, hb4⟩
      have HB4 := Lib.hid (HB2.out.trans (hb4.mono HB2.out.size))
      clear hb4 HT
      go_wp2_with fail
      go_ret
      exact ⟨ret_bool (by rw [HQ2.out]; simp), HB4.out⟩
    · have HQ2 : Hid (q = false) := by show _ = _; rw [HQ1.out]; simp [hz0]
      go_wp2_with fail
      go_ret
      exact ⟨ret_bool (by rw [HQ2.out]; simp), HB2.out⟩
  · obtain ⟨z, hzq⟩ : ∃ z, stoneIx md name = z := ⟨_, rfl⟩
    have HQ1 : Hid (q = decide (0 ≤ z)) := by
      show _ = _
      rw [← HQ.out, ← hzq]
      simp [thereB]
    rw [hzq] at HSo
    clear HQ hzq HE HSt
    go_enter Tryz.func48, Tryz.ntmps48
    go_upto_region 1 with fail
    rw [HW.out]
    go_wp2_with fail
    refine HSo.out.mono ?_
    rintro e w2 ⟨rfl, hb2⟩
    have HB2 := Lib.hid (HB1.out.trans (hb2.mono HB1.out.size))
    have HB12 := Lib.hid hb2
    clear y0 y1 y2 y3 y4 y5 z0 z1 z2 HSo
    obtain ⟨y0, y1, y2, y3, y4, y5⟩ := box6 HX.out hb2
    obtain ⟨z0, z1, z2⟩ := HB3.out w2 hb2
    clear hb2
    by_cases hz0 : 0 ≤ z
    · have HQ2 : Hid (q = true) := by show _ = _; rw [HQ1.out]; simp [hz0]
      go_wp2_with fail
      refine (HT.out _ HB12.out).mono ?_
      rintro e w4 ⟨rfl, hb4⟩
      have HB4 := Lib.hid (HB2.out.trans (hb4.mono HB2.out.size))
      clear hb4 HT
      go_wp2_with fail
      go_ret
      exact ⟨ret_bool (by rw [HQ2.out]; simp), HB4.out⟩
    · have HQ2 : Hid (q = false) := by show _ = _; rw [HQ1.out]; simp [hz0]
      go_wp2_with fail
      go_ret
      exact ⟨ret_bool (by rw [HQ2.out]; simp), HB2.out⟩
  · have HQ2 : Hid (q = false) := by
      show _ = _
      rw [← HQ.out]
      simp [thereB, n0, n1, n2, n3, n4, n5]
    have e0 : (on == 0) = false := by simpa using n0
    have e1 : (on == 1) = false := by simpa using n1
    have e2 : (on == 2) = false := by simpa using n2
    have e3 : (on == 3) = false := by simpa using n3
    have e4 : (on == 4) = false := by simpa using n4
    have e5 : (on == 5) = false := by simpa using n5
    clear HQ HE HSt HSo n0 n1 n2 n3 n4 n5
    go_enter Tryz.func48, Tryz.ntmps48
    go_upto_region 1 with fail
    rw [HW.out]
    go_wp2_with fail
    go_ret
    exact ⟨ret_bool (by rw [HQ2.out]; simp), HB1.out⟩
end Go.Proofs.YtfbbkmdhnkmonaaGreatDoor

namespace Go.Proofs.YtfbbkmdhnkmonaaGreatDoor
open Go.RowKit

def cmpI (x y : Int) : Int := if x < y then -1 else if y < x then 1 else 0
theorem cmpI_ne {x y : Int} : cmpI x y ≠ 0 ↔ x ≠ y := by
  unfold cmpI
  split
  · omega
  · split <;> omega
def cmpL : List Int → List Int → Int
  | x :: xs, y :: ys => if cmpI x y ≠ 0 then cmpI x y else cmpL xs ys
  | _, _ => 0
set_option maxHeartbeats 2000000 in
theorem nanI_walk (x : Int) (w : World) : Calls Tryz.prog 111 #[.int .i64 x] w fun e w' => e = .returned (.bool false) ∧ w' = w := by
  have h : (x != x) = false := by simp
  go_enter Tryz.func111, Tryz.ntmps111
  go_wp2_with fail
  go_ret
  exact ⟨rfl, rfl⟩
set_option maxHeartbeats 4000000 in
set_option maxRecDepth 100000 in
theorem cmpI_walk (x y : Int) (w : World) : Calls Tryz.prog 72 #[.int .i64 x, .int .i64 y] w fun e w' => e = .returned (.int .i64 (cmpI x y)) ∧ w' = w := by
  have c1 := nanI_walk x w
  have c2 := nanI_walk y w
  by_cases h1 : x < y
  · rw [show cmpI x y = -1 from if_pos h1]
    go_enter Tryz.func72, Tryz.ntmps72
    go_wp2_with (first | (go_at_call 111; refine c1.mono ?_; rintro e w' ⟨rfl, rfl⟩) | (go_at_call 111; refine c2.mono ?_; rintro e w' ⟨rfl, rfl⟩))
    go_ret
    exact ⟨rfl, rfl⟩
  · by_cases h2 : y < x
    · rw [show cmpI x y = 1 by unfold cmpI; rw [if_neg h1, if_pos h2]]
      go_enter Tryz.func72, Tryz.ntmps72
      go_wp2_with (first | (go_at_call 111; refine c1.mono ?_; rintro e w' ⟨rfl, rfl⟩) | (go_at_call 111; refine c2.mono ?_; rintro e w' ⟨rfl, rfl⟩))
      go_ret
      exact ⟨rfl, rfl⟩
    · rw [show cmpI x y = 0 by unfold cmpI; rw [if_neg h1, if_neg h2]]
      go_enter Tryz.func72, Tryz.ntmps72
      go_wp2_with (first | (go_at_call 111; refine c1.mono ?_; rintro e w' ⟨rfl, rfl⟩) | (go_at_call 111; refine c2.mono ?_; rintro e w' ⟨rfl, rfl⟩))
      go_ret
      exact ⟨rfl, rfl⟩
theorem cmpL_drop {xs ys : List Int} {m : Nat} (h1 : m < xs.length) (h2 : m < ys.length) : cmpL (xs.drop m) (ys.drop m) = if cmpI xs[m] ys[m] ≠ 0 then cmpI xs[m] ys[m] else cmpL (xs.drop (m + 1)) (ys.drop (m + 1)) := by
  rw [List.drop_eq_getElem_cons h1, List.drop_eq_getElem_cons h2]
  rfl
set_option maxHeartbeats 4000000 in
set_option maxRecDepth 100000 in
theorem compare_walk (xs ys : List Int) (n b o c b2 o2 c2 : Nat) (w : World) (hx : xs.length = n) (hy : ys.length = n) (hn : n ≤ 1000) (h1 : ∀ j (h : j < xs.length), w.cell? ⟨b, o + j, none⟩ = some (.int .i64 xs[j])) (h2 : ∀ j (h : j < ys.length), w.cell? ⟨b2, o2 + j, none⟩ = some (.int .i64 ys[j])) :
    Calls Tryz.prog 32 #[.slice (some ⟨b, o, none⟩) n c, .slice (some ⟨b2, o2, none⟩) n c2] w fun e w' => e = .returned (.int .i64 (cmpL xs ys)) ∧ w' = w := by
  have H1 := Lib.hid h1
  have H2 := Lib.hid h2
  have HX := Lib.hid hx
  have HY := Lib.hid hy
  obtain ⟨q, hq⟩ : ∃ q, cmpL xs ys = q := ⟨_, rfl⟩
  rw [hq]
  have HQ := Lib.hid hq
  clear h1 h2 hx hy hq
  go_enter Tryz.func32, Tryz.ntmps32
  go_wp2_with fail
  go_loopw [11] (fun i wr => ∃ m : Nat, m ≤ n ∧ i = .int .i64 (m : Int) ∧ wr = w ∧ Hid (cmpL (xs.drop m) (ys.drop m) = q)) (fun i _ => n - (intOf i).toNat)
  case atStart => exact ⟨0, Nat.zero_le _, rfl, rfl, HQ.out⟩
  case round =>
    obtain ⟨m, hmn, rfl, rfl, HM⟩ := hrel
    by_cases hlt : m < n
    · have i1 : (m : Int) < (n : Int) := by omega
      have i2 : (0 : Int) ≤ (m : Int) := by omega
      have i3 : ¬ (n : Int) ≤ (m : Int) := by omega
      have HML := Lib.hid hlt
      have hmx : m < xs.length := by rw [HX.out]; exact hlt
      have hmy : m < ys.length := by rw [HY.out]; exact hlt
      have x0 := H1.out m hmx
      have z0 := H2.out m hmy
      have hd := HM.out
      rw [cmpL_drop hmx hmy] at hd
      obtain ⟨x, hxe⟩ : ∃ x, xs[m] = x := ⟨_, rfl⟩
      obtain ⟨z, hze⟩ : ∃ z, ys[m] = z := ⟨_, rfl⟩
      rw [hxe, hze] at hd
      rw [hxe] at x0
      rw [hze] at z0
      have hC := cmpI_walk x z wr
      obtain ⟨r, hr⟩ : ∃ r, cmpI x z = r := ⟨_, rfl⟩
      rw [hr] at hd hC
      have HC := Lib.hid hC
      clear hC hr hxe hze HM
      by_cases h0 : r = 0
      · subst h0
        rw [if_neg (by simp)] at hd
        have HD := Lib.hid hd
        have wr1 : IntKind.i64.wrap ((m : Int) + 1) = (m : Int) + 1 := wrap_i64 (by omega) (by omega)
        clear hd
        go_wp2_with fail
        refine HC.out.mono ?_
        rintro e w2 ⟨rfl, rfl⟩
        go_wp2_with fail
        refine ⟨⟨m + 1, by have := HML.out; omega, by go_num, by first | trivial | rfl, HD⟩, by simp only [intOf]; have := HML.out; omega⟩
      · rw [if_pos h0] at hd
        have e1 : (r != 0) = true := by simpa using h0
        have HD := Lib.hid hd
        clear hd h0
        go_wp2_with fail
        refine HC.out.mono ?_
        rintro e w2 ⟨rfl, rfl⟩
        go_wp2_with fail
        go_ret
        exact ⟨ret_int HD.out, rfl⟩
    · obtain rfl : m = n := by omega
      have i1 : ¬ (m : Int) < (m : Int) := by omega
      have HD : Hid (0 = q) := by
        show _ = _
        rw [← HM.out, List.drop_of_length_le (by rw [HX.out]; exact Nat.le_refl _)]; rfl
      go_wp2_with fail
      go_ret
      exact ⟨ret_int HD.out, rfl⟩
/-- the comparison of places -/
def cfP (a b : Pl) : Int := cmpL [a.1, a.2.1, a.2.2] [b.1, b.2.1, b.2.2]
theorem cfP_lt (a b : Pl) : cfP a b < 0 ↔ plLt a b := by
  obtain ⟨a1, a2, a3⟩ := a
  obtain ⟨b1, b2, b3⟩ := b
  simp only [cfP, cmpL, plLt, cmpI]
  repeat' split
  all_goals omega
open Go.Shelf Go.Lib Go.Sort in
set_option maxHeartbeats 4000000 in
set_option maxRecDepth 100000 in
theorem byPlace_walk (x y : Pl) (W : World) : Calls Tryz.prog 31 #[.agg (plC x).toArray, .agg (plC y).toArray] W fun e w' => e = .returned (.int .i64 (cfP x y)) ∧ ∃ q os', w' = grow (W.drewN q) os' := by
  obtain ⟨x1, x2, x3⟩ := x
  obtain ⟨y1, y2, y3⟩ := y
  obtain ⟨w2, hw2⟩ : ∃ w2, (W.alloc (.cells #[.int .i64 x1, .int .i64 x2, .int .i64 x3] 33)).alloc (.cells #[.int .i64 y1, .int .i64 y2, .int .i64 y3] 33) = w2 := ⟨_, rfl⟩
  have hx : Arr w2 W.heap.size 33 [.int .i64 x1, .int .i64 x2, .int .i64 x3] := hw2 ▸ (Arr.new W _ _).alloc _
  have hy : Arr w2 (W.heap.size + 1) 33 [.int .i64 y1, .int .i64 y2, .int .i64 y3] := by
    have := Arr.new (W.alloc (.cells #[.int .i64 x1, .int .i64 x2, .int .i64 x3] 33)) [.int .i64 y1, .int .i64 y2, .int .i64 y3] 33
    rw [size_alloc] at this
    exact hw2 ▸ this
  have x0 := hx.cell (j := 0) (by simp)
  have x1' := hx.cell (j := 1) (by simp)
  have x2' := hx.cell (j := 2) (by simp)
  have y0 := hy.cell (j := 0) (by simp)
  have y1' := hy.cell (j := 1) (by simp)
  have y2' := hy.cell (j := 2) (by simp)
  have HC := Lib.hid (fun n => compare_walk [x1, x2, x3] [y1, y2, y3] 3 W.heap.size 0 3 (W.heap.size + 1) 0 3 (w2.drewN n) rfl rfl (by omega) (fun j h => by
    rw [World.cell?_drewN, Nat.zero_add]
    match j, h with
    | 0, _ => exact x0
    | 1, _ => exact x1'
    | 2, _ => exact x2') (fun j h => by
    rw [World.cell?_drewN, Nat.zero_add]
    match j, h with
    | 0, _ => exact y0
    | 1, _ => exact y1'
    | 2, _ => exact y2'))
  obtain ⟨r, hr⟩ : ∃ r, cfP (x1, x2, x3) (y1, y2, y3) = r := ⟨_, rfl⟩
  have hr' : cmpL [x1, x2, x3] [y1, y2, y3] = r := hr
  rw [hr'] at HC
  rw [hr]
  have HW2 := Lib.hid hw2
  clear hr hr' hx hy x0 x1' x2' y0 y1' y2' hw2
  simp only [plC]
  go_enter Tryz.func31, Tryz.ntmps31
  go_upto_region 1 with fail
  rw [HW2.out]
  go_quiet ((go_at_call 32; exact (HC.out _).mono (fun _ _ h => ⟨h.1, _, h.2⟩)))
  go_wp2_with fail
  go_ret
  have h : ∀ n, ∃ os', w2.drewN n = grow (W.drewN n) os' := fun n => ⟨_, by rw [← HW2.out, alloc_eq_grow, alloc_eq_grow, grow_grow]; rfl⟩
  exact ⟨rfl, _, h _⟩
end Go.Proofs.YtfbbkmdhnkmonaaGreatDoor

namespace Go.Proofs.YtfbbkmdhnkmonaaGreatDoor
open Go.RowKit Go.Shelf Go.Lib Go.Sort

/-- how the sort ends -/
def SortEndP (base g vc : Nat) (l : List Pl) (w : World) (e : Ending) (w' : World) : Prop := e = .returned (.tuple #[]) ∧ ∃ l' : List Pl, l'.Perm l ∧ (∀ i j (hi : i < l'.length) (hj : j < l'.length), i < j → ¬ plLt l'[j] l'[i]) ∧ Own w' base 33 3 (some ⟨g, 0, none⟩) vc l.length (l'.flatMap plC) ∧ w.grownBy w' (some g)
theorem plC_flat_len (l : List Pl) : (l.flatMap plC).length = l.length * 3 := by
  induction l with
  | nil => rfl
  | cons x l ih => rw [List.flatMap_cons, List.length_append, ih, List.length_cons]; simp [plC]; omega
theorem ltOf_P (x y : Pl) : ltOf cfP x y = decide (plLt x y) := by
  unfold ltOf
  rw [Bool.eq_iff_iff, decide_eq_true_eq, decide_eq_true_eq]
  exact cfP_lt x y
theorem swoP : SWO (ltOf cfP) where
  irrefl x := by rw [ltOf_P]; exact decide_eq_false (plLt_irrefl _)
  trans x y z h1 h2 := by rw [ltOf_P, decide_eq_true_eq] at *; exact plLt_trans h1 h2
  ntrans x y z h1 h2 := by
    rw [ltOf_P, decide_eq_false_iff_not] at *
    intro h
    rcases plLt_total x y with h3 | h3 | h3
    · exact h1 h3
    · rw [h3] at h; exact h2 h
    · exact h2 (plLt_trans h3 h)
theorem flatK_P (l : List Pl) : flatK plC 3 l.toArray = (l.flatMap plC).toArray := by
  apply Array.ext (by simp only [List.size_toArray, plC_flat_len]; simp)
  intro t h1 h2
  have ht : t < l.length * 3 := by simpa only [List.size_toArray, plC_flat_len] using h2
  have e := get_flatK plC 3 l.toArray t (by simpa using ht)
  have hl : t / 3 < l.length := by omega
  rw [← getElem!_pos (flatK plC 3 l.toArray) t h1, e]
  obtain ⟨q, r, hr, rfl⟩ : ∃ q r, r < 3 ∧ t = q * 3 + r := ⟨t / 3, t % 3, Nat.mod_lt _ (by omega), by omega⟩
  have hq : (q * 3 + r) / 3 = q := by omega
  have hm : (q * 3 + r) % 3 = r := by omega
  rw [hq] at hl
  have hf := flat_at (k := 3) (l.map plC) (by intro v hv; obtain ⟨x, -, rfl⟩ := List.mem_map.1 hv; rfl) q r (by simpa using hl) hr
  rw [← List.flatMap_def, List.getElem_map] at hf
  have hx : l.toArray[q]! = l[q] := by rw [getElem!_pos l.toArray q (by simpa using hl)]; simp
  rw [hq, hm, hx]
  have e4 : some ((l.flatMap plC).toArray[q * 3 + r]) = (plC l[q])[r]? := by
    rw [← hf]
    have : (l.flatMap plC).toArray[q * 3 + r]? = (l.flatMap plC)[q * 3 + r]? := by simp
    rw [← this]; exact (Array.getElem?_eq_getElem h2).symm
  match r, hr with
  | 0, _ => have e5 : (plC l[q])[0]? = some (.int .i64 l[q].1) := rfl
            rw [e5] at e4; injection e4 with e4; rw [e4]; rfl
  | 1, _ => have e5 : (plC l[q])[1]? = some (.int .i64 l[q].2.1) := rfl
            rw [e5] at e4; injection e4 with e4; rw [e4]; rfl
  | 2, _ => have e5 : (plC l[q])[2]? = some (.int .i64 l[q].2.2) := rfl
            rw [e5] at e4; injection e4 with e4; rw [e4]; rfl
theorem heap_sortedK {w : World} {g n : Nat} {os : Array Obj} {cur : Array Value} {e : TypeId} {fr : Nat × Nat} (F : Array Value) (hb : w.heap[g]? = some (.cells cur e fr)) :
    (grow (putRow id (Sort.ahead w n) g 0 F) os).heap[g]? = some (.cells (putCells id 0 F cur) e fr) := by
  have hg : g < w.heap.size := (Array.getElem?_eq_some_iff.1 hb).1
  rw [heap_grow_old _ _ (by simpa using hg)]
  simp [putRow, mapBlock, Sort.ahead, Array.getElem?_modify, hb, onCells]
theorem grownBy_sortedK {w : World} {g n : Nat} {os : Array Obj} (F : Array Value) : w.grownBy (grow (putRow id (Sort.ahead w n) g 0 F) os) (some g) := by
  refine ⟨rfl, rfl, rfl, by simp, fun k hk hne => ?_⟩
  rw [heap_grow_old _ _ (by simpa using hk)]
  have : g ≠ k := fun e => hne (by rw [e])
  simp [putRow, mapBlock, Sort.ahead, Array.getElem?_modify, this]
theorem take_putCellsK (cur F : Array Value) (h : F.size ≤ cur.size) : (putCells id 0 F cur).toList.take F.size = F.toList := by
  apply List.ext_getElem?
  intro j
  by_cases hj : j < F.size
  · rw [List.getElem?_take_of_lt hj, Array.getElem?_toList]
    simp [putCells, hj, show j < cur.size by omega]
  · rw [List.getElem?_take_eq_none (by omega), List.getElem?_eq_none (by simp; omega)]
theorem Own.sortedP {w : World} {base g vc n : Nat} {os : Array Obj} {E : TypeId} {l : List Pl} (h : Own w base E 3 (some ⟨g, 0, none⟩) vc l.length (l.flatMap plC)) (l' : List Pl) (hl : l'.length = l.length) :
    Own (grow (putRow id (Sort.ahead w n) g 0 (l'.flatMap plC).toArray) os) base E 3 (some ⟨g, 0, none⟩) vc l.length (l'.flatMap plC) := by
  rcases h.block with ⟨h1, _⟩ | ⟨g', he, hb, hlt, cur, hcur, h1, h2, h3⟩
  · cases h1
  · cases he
    refine ⟨by rw [plC_flat_len, hl], .inr ⟨g, vc, _, rfl, hb, heap_sortedK _ hcur, h.cap.1, h.cap.2, by simp [putCells, h2], ?_⟩⟩
    have := take_putCellsK cur (l'.flatMap plC).toArray (by simp only [List.size_toArray, plC_flat_len, hl]; exact h1)
    rw [show l.length * 3 = (l'.flatMap plC).toArray.size by simp only [List.size_toArray, plC_flat_len, hl], this]
instance inhPlSort : Inhabited Pl := ⟨(0, 0, 0)⟩
set_option maxHeartbeats 4000000 in
theorem sortPlaces (base g vc : Nat) (l : List Pl) (w : World) (h : Own w base 33 3 (some ⟨g, 0, none⟩) vc l.length (l.flatMap plC)) (hl : l.length ≤ 1000) :
    Calls Tryz.prog 30 #[.slice (some ⟨g, 0, none⟩) l.length vc, .func (.func 31) #[] #[]] w (SortEndP base g vc l w) := by
  have eg : ∀ args w, (callFunc 31 args).run Tryz.prog w = .ok (.enter 31 args) w := enters_of Tryz.func31 (by kernel_rfl) rfl
  have hH : HoldsK plC 3 w g 0 l.toArray := by
    unfold HoldsK
    rw [flatK_P]
    intro j hj
    have hj' : j < (l.flatMap plC).length := by simpa using hj
    have hjl : 0 < l.length * 3 := by rw [plC_flat_len] at hj'; omega
    obtain ⟨g', he, -, -, hc, hf⟩ := h.cell hjl
    cases he
    refine ⟨?_, by rw [Nat.zero_add]; exact hf j⟩
    rw [Nat.zero_add, getElem!_pos (l.flatMap plC).toArray j hj]
    exact hc j _ (by simp [List.getElem?_eq_getElem hj'])
  have hcon := AnyQ.slices_SortFunc Tryz.sortPl 3 Tryz.isAgg33 Tryz.sizeOf33 plC (fun _ => rfl) (fun x v hv => by
    simp only [plC, List.mem_cons, List.not_mem_nil, or_false] at hv
    rcases hv with rfl | rfl | rfl <;> rfl) cfP swoP 31 #[] g 0 vc l.toArray w eg (fun m os dk _ x y => byPlace_walk x y _) hH (h.lt rfl).2 (by simp; omega)
  refine Calls.mono (R := _) hcon ?_
  rintro e w' ⟨rfl, d', n, os, hp, hs, rfl⟩
  have hd : d'.size = l.length := by simpa using hp.1
  obtain ⟨l', rfl⟩ : ∃ l' : List Pl, d' = l'.toArray := ⟨d'.toList, by simp⟩
  have hl' : l'.length = l.length := by simpa using hd
  refine ⟨rfl, l', ?_, ?_, ?_, ?_⟩
  · have h5 := hp.2.2
    have h6 : (List.take l.length l').Perm l := by simpa using h5
    rwa [List.take_of_length_le (by omega)] at h6
  · intro i j hi hj hij
    have := hs i j (Nat.zero_le _) hij (by simpa [← hl'] using hj)
    rw [ltOf_P, decide_eq_false_iff_not] at this
    simpa [hi, hj] using this
  · unfold sortWorldK putRowK
    rw [flatK_P]
    exact h.sortedP l' hl'
  · unfold sortWorldK putRowK
    exact grownBy_sortedK _
end Go.Proofs.YtfbbkmdhnkmonaaGreatDoor
