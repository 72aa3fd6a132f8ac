/- package model: places: all sentries by their places. Written by wip/moplacesgen.py. -/
import Derived.Test.YtfbbkmdhnkmonaaGreatDoorS12
import Derived.Carry
import Derived.Deep.LoopGhost
namespace Go.Proofs.YtfbbkmdhnkmonaaGreatDoor
open Go.RowKit

def senP (md : ModelD) (p : Pl) : Option Value := (senAt md p).map senV
theorem puts_sen {md : ModelD} {k n : Int} {l : List SentryD} (h : senL md k n = l) (p : Pl) : putsAt k n l p = if p.1 = k ∧ p.2.1 = n then senP md p else none := by
  obtain ⟨a, b, c⟩ := p
  simp only [putsAt, senP, senAt]
  by_cases h1 : a = k ∧ b = n
  · obtain ⟨rfl, rfl⟩ := h1
    rw [h]
    by_cases h2 : c < 0
    · simp [h2, show ¬ (0 : Int) ≤ c by omega]
    · simp [h2, show (0 : Int) ≤ c by omega]
  · rw [if_neg h1, if_neg (fun h2 => h1 ⟨h2.1, h2.2.1⟩)]
/-- the map so far -/
def MapTo (md : ModelD) (S : Pl → Bool) (W : World) (M : Nat) : Prop := ∃ ents, KM.MapIs plV okPl W M ents ∧ ∀ p, KM.getM ents p = if S p = true then senP md p else none
theorem PutEnd.to {md : ModelD} {k n : Int} {l : List SentryD} {M : Nat} {ents : KM.Ents Pl} {w w' : World} {e : Ending} {S S' : Pl → Bool} (h : PutEnd k n l M ents w e w') (hs : ∀ p, KM.getM ents p = if S p = true then senP md p else none) (hl : senL md k n = l)
    (hS : ∀ p, S' p = (decide (p.1 = k ∧ p.2.1 = n) || S p)) : e = .returned (.tuple #[]) ∧ MapTo md S' w' M ∧ w.grownBy w' (some M) := by
  obtain ⟨he, ents', h1, h2, h3⟩ := h
  refine ⟨he, ⟨ents', h1, fun p => ?_⟩, h2⟩
  rw [h3, puts_sen hl, hs, hS]
  by_cases hp : p.1 = k ∧ p.2.1 = n
  · rw [if_pos hp, decide_eq_true hp, Bool.true_or, if_pos rfl]
    cases hsp : senP md p with
    | some u => rfl
    | none => simp
  · rw [if_neg hp, decide_eq_false hp, Bool.false_or]; rfl
def S1 (n : Nat) (p : Pl) : Bool := decide ((p.1 = 1 ∨ p.1 = 2) ∧ 0 ≤ p.2.1 ∧ p.2.1 < n)
def S1h (n : Nat) (p : Pl) : Bool := decide (p.1 = 1 ∧ p.2.1 = n) || S1 n p
def S2 (a n : Nat) (p : Pl) : Bool := decide ((p.1 = 3 ∨ p.1 = 4) ∧ 0 ≤ p.2.1 ∧ p.2.1 < n) || S1 a p
def S2h (a n : Nat) (p : Pl) : Bool := decide (p.1 = 3 ∧ p.2.1 = n) || S2 a n p
theorem S1_next (n : Nat) (p : Pl) : S1 (n + 1) p = (decide (p.1 = 2 ∧ p.2.1 = n) || S1h n p) := by
  rw [Bool.eq_iff_iff]
  simp only [S1, S1h, Bool.or_eq_true, decide_eq_true_eq]; omega
theorem S2_next (a n : Nat) (p : Pl) : S2 a (n + 1) p = (decide (p.1 = 4 ∧ p.2.1 = n) || S2h a n p) := by
  rw [Bool.eq_iff_iff]
  simp only [S2, S2h, S1, Bool.or_eq_true, decide_eq_true_eq]; omega
theorem S2_zero (a : Nat) (p : Pl) : S2 a 0 p = S1 a p := by
  rw [Bool.eq_iff_iff]
  simp only [S2, S1, Bool.or_eq_true, decide_eq_true_eq]; omega
theorem senL_stage {md : ModelD} {n : Nat} (h : n < md.stages.length) : senL md 1 (n : Int) = md.stages[n].opens ∧ senL md 2 (n : Int) = md.stages[n].closes := by
  have hg : md.stages[n]? = some md.stages[n] := List.getElem?_eq_getElem h
  have h0 : ¬ (n : Int) < 0 := by omega
  constructor <;> simp [senL, hg, h0]
theorem senL_stone {md : ModelD} {n : Nat} (h : n < md.stones.length) : senL md 3 (n : Int) = md.stones[n].done ∧ senL md 4 (n : Int) = md.stones[n].undo := by
  have hg : md.stones[n]? = some md.stones[n] := List.getElem?_eq_getElem h
  have h0 : ¬ (n : Int) < 0 := by omega
  constructor <;> simp [senL, hg, h0]
theorem S2_all (md : ModelD) (p : Pl) : (if S2 md.stages.length md.stones.length p = true then senP md p else none) = senP md p := by
  split
  · rfl
  · rename_i h
    cases hs : senAt md p with
    | none => simp [senP, hs]
    | some s =>
      exfalso
      have h1 := senAt_some.1 (show (senAt md p).isSome = true by rw [hs]; rfl)
      obtain ⟨h2, h3⟩ := h1
      have h4 := senL_range h3
      apply h
      simp only [S2, S1, Bool.or_eq_true, decide_eq_true_eq]
      have key : ∀ {α : Type} (l : List α) (f : α → List SentryD), p.2.2.toNat < ((l[p.2.1.toNat]?.map f).getD []).length → p.2.1.toNat < l.length := by
        intro α l f h
        rcases Nat.lt_or_ge p.2.1.toNat l.length with h1 | h1
        · exact h1
        · rw [List.getElem?_eq_none h1] at h; simp at h
      obtain ⟨h5, h6, -⟩ := h4
      unfold senL at h3
      rw [if_neg (by omega)] at h3
      rcases h5 with e | e | e | e
      · rw [if_pos e] at h3
        have := key _ _ h3
        right; omega
      · rw [if_neg (by omega), if_pos e] at h3
        have := key _ _ h3
        right; omega
      · rw [if_neg (by omega), if_neg (by omega), if_pos e] at h3
        have := key _ _ h3
        left; omega
      · rw [if_neg (by omega), if_neg (by omega), if_neg (by omega), if_pos e] at h3
        have := key _ _ h3
        left; omega
theorem sum_mem {l : List Nat} {x : Nat} (h : x ∈ l) : x ≤ l.sum := by
  induction l with
  | nil => cases h
  | cons y l ih =>
    rw [List.sum_cons]
    rcases List.mem_cons.1 h with rfl | h
    · omega
    · have := ih h; omega
theorem few_stage {md : ModelD} (h : manyN md ≤ 128) {n : Nat} (hn : n < md.stages.length) : md.stages[n].opens.length ≤ 128 ∧ md.stages[n].closes.length ≤ 128 := by
  have := sum_mem (List.mem_map.2 ⟨md.stages[n], List.getElem_mem hn, rfl⟩ : md.stages[n].opens.length + md.stages[n].closes.length ∈ md.stages.map fun s => s.opens.length + s.closes.length)
  unfold manyN at h
  omega
theorem few_stone {md : ModelD} (h : manyN md ≤ 128) {n : Nat} (hn : n < md.stones.length) : md.stones[n].done.length ≤ 128 ∧ md.stones[n].undo.length ≤ 128 := by
  have := sum_mem (List.mem_map.2 ⟨md.stones[n], List.getElem_mem hn, rfl⟩ : md.stones[n].done.length + md.stones[n].undo.length ∈ md.stones.map fun s => s.done.length + s.undo.length)
  unfold manyN at h
  omega
/-- no list of a model is too long -/
structure ModelD.Few (md : ModelD) : Prop where
  stages : md.stages.length ≤ 32
  stones : md.stones.length ≤ 32
  many : manyN md ≤ 128
theorem elemPl : Elem Tryz.prog 42 33 3 24 := ⟨Tryz.underlying42, ⟨.agg #[.int .i64 0, .int .i64 0, .int .i64 0], by kernel_rfl, rfl⟩, by omega, Tryz.sizeOf33⟩
/-- the keys of a map that is whole -/
theorem whole_keys {md : ModelD} {ents : KM.Ents Pl} (hn : (ents.map (·.1)).Nodup) (hg : ∀ p, KM.getM ents p = senP md p) : (ents.map (·.1)).Perm (placesL md) ∧ ents.length = manyN md := by
  have hp : (ents.map (·.1)).Perm (placesL md) := perm_of_mem hn (placesL_nodup md) fun p => by
    rw [← KM.getM_mem, hg, mem_placesL, senP, Option.isSome_map]
  refine ⟨hp, ?_⟩
  have := hp.length_eq
  rw [List.length_map, length_placesL] at this
  exact this
/-- append of one place -/
theorem own_snocP {w : World} {base : Nat} {va : Option Addr} {vc : Nat} {rs : List Pl} (p : Pl) (h : Own w base 33 3 va vc rs.length (rs.flatMap plC)) (hb : base ≤ w.heap.size) (hl : rs.length ≤ 4000000) :
    ∃ g' vc' w', (Builtin.append_ #[42, 42] 42 #[.slice va rs.length vc, .slice (some ⟨w.heap.size, 0, none⟩) 1 1]).run Tryz.prog (w.alloc (.cells #[.int .i64 p.1, .int .i64 p.2.1, .int .i64 p.2.2] 33)) = .ok (.slice (some ⟨g', 0, none⟩) (rs.length + 1) vc') w' ∧
      Own w' base 33 3 (some ⟨g', 0, none⟩) vc' (rs ++ [p]).length ((rs ++ [p]).flatMap plC) ∧ Below base w w' ∧ w.grownBy w' (blockOf va) := by
  have hA := Arr.new w [.int .i64 p.1, .int .i64 p.2.1, .int .i64 p.2.2] 33
  have hc0 := hA.cell (j := 0) (by simp)
  have hc1 := hA.cell (j := 1) (by simp)
  have hc2 := hA.cell (j := 2) (by simp)
  have ho := h.alloc (.cells #[.int .i64 p.1, .int .i64 p.2.1, .int .i64 p.2.2] 33)
  have hb4 : Below base w (w.alloc (.cells #[.int .i64 p.1, .int .i64 p.2.1, .int .i64 p.2.2] 33)) := (Below.refl _ _).alloc hb _
  obtain ⟨va', vc', w', hap, ho5, hg5⟩ := Own.app elemPl 42 ho (by rw [size_alloc]; omega) (some ⟨w.heap.size, 0, none⟩) 1 1 w.heap.size 0 [.int .i64 p.1, .int .i64 p.2.1, .int .i64 p.2.2] rfl (fun _ => rfl) (fun j u hj => by
    match j, hj with
    | 0, hj => simp at hj; subst hj; exact hc0
    | 1, hj => simp at hj; subst hj; exact hc1
    | 2, hj => simp at hj; subst hj; exact hc2
    | j + 3, hj => simp at hj) (fun u hu => by
    simp only [List.mem_cons, List.not_mem_nil, or_false] at hu
    rcases hu with rfl | rfl | rfl <;> rfl) (by unfold maxLen; omega) (by omega)
  have hva : ∃ g', va' = some ⟨g', 0, none⟩ := by
    rcases ho5.block with ⟨_, h0, _⟩ | ⟨g, h1, _⟩
    · omega
    · exact ⟨g, h1⟩
  obtain ⟨g', rfl⟩ := hva
  refine ⟨g', vc', w', hap, by simpa [plC] using ho5, hb4.grown hg5 (by rw [size_alloc]; omega) (fun j hj => ?_), (World.grownBy_alloc _ _ _).trans hg5⟩
  rcases ho.block with ⟨h1, _⟩ | ⟨g, h1, h2, _⟩
  · rw [h1] at hj; cases hj
  · rw [h1] at hj; cases hj; exact h2
/-- the keys at some numbers -/
def keysAt (ents : KM.Ents Pl) (seen : List Nat) : List Pl := seen.map fun i => (ents.map (·.1)).getD i (0, 0, 0)
theorem keysAt_perm {ents : KM.Ents Pl} {seen : List Nat} (hn : (ents.map (·.1)).Nodup) (hs : seen.Nodup) (hin : ∀ i ∈ seen, i < ents.length) (hall : ∀ i, i < ents.length → i ∈ seen) : (keysAt ents seen).Nodup ∧ ∀ p, p ∈ keysAt ents seen ↔ p ∈ ents.map (·.1) := by
  have hg : ∀ i, i < ents.length → ∃ h : i < (ents.map (·.1)).length, (ents.map (·.1)).getD i (0, 0, 0) = (ents.map (·.1))[i] := fun i hi => ⟨by simpa using hi, by rw [List.getD_eq_getElem?_getD, List.getElem?_eq_getElem (by simpa using hi)]; rfl⟩
  constructor
  · unfold keysAt
    refine List.pairwise_map.2 (List.Pairwise.imp_of_mem (fun {a b} ha hb hab he => ?_) hs)
    obtain ⟨h1, e1⟩ := hg a (hin a ha)
    obtain ⟨h2, e2⟩ := hg b (hin b hb)
    rw [e1, e2] at he
    exact hab ((List.getElem_inj hn).1 he)
  · intro p
    unfold keysAt
    rw [List.mem_map]
    constructor
    · rintro ⟨i, hi, rfl⟩
      obtain ⟨h1, e1⟩ := hg i (hin i hi)
      rw [e1]; exact List.getElem_mem h1
    · intro hp
      obtain ⟨i, hi, rfl⟩ := List.mem_iff_getElem.1 hp
      obtain ⟨h1, e1⟩ := hg i (by simpa using hi)
      exact ⟨i, hall i (by simpa using hi), e1⟩
theorem seen_le {seen : List Nat} {n : Nat} (hn : seen.Nodup) (hin : ∀ i ∈ seen, i < n) : seen.length ≤ n := by
  have h : ∀ (s l : List Nat), s.Nodup → (∀ y ∈ s, y ∈ l) → s.length ≤ l.length := by
    intro s
    induction s with
    | nil => intro l _ _; simp
    | cons x s ih =>
      intro l hn hm
      have hx := hm x (List.mem_cons_self ..)
      have := ih (l.erase x) (List.nodup_cons.1 hn).2 fun y hy => (List.mem_erase_of_ne (fun e : y = x => (List.nodup_cons.1 hn).1 (e ▸ hy))).2 (hm y (List.mem_cons_of_mem _ hy))
      rw [List.length_erase_of_mem hx] at this
      have := List.length_pos_of_mem hx
      simp only [List.length_cons]
      omega
  have := h seen (List.range n) hn fun y hy => List.mem_range.2 (hin y hy)
  simpa using this
/-- how places ends -/
def PlacesEnd (md : ModelD) (w : World) (e : Ending) (w' : World) : Prop := Below w.heap.size w w' ∧ ∃ g vc M ents, e = .returned (.tuple #[.slice (some ⟨g, 0, none⟩) (placesL md).length vc, .map (some M)]) ∧ w.heap.size ≤ g ∧ g < w'.heap.size ∧
  Mem false (From 0) w' (flatL 3 plC (placesL md)) (.slice (some ⟨g, 0, none⟩) (placesL md).length vc) ∧ w.heap.size ≤ M ∧ KM.MapIs plV okPl w' M ents ∧ ∀ p, KM.getM ents p = senP md p
set_option maxHeartbeats 16000000 in
set_option maxRecDepth 100000 in
theorem places_walk (md : ModelD) (v : ModelV) (w : World) (hf : md.Few) (hM : ModelM false (From 0) w md v) : Calls Tryz.prog 16 #[.agg (v.cs md).toArray] w (PlacesEnd md w) := by
  obtain ⟨a1, n1, a2, n2, a3, n3, a4, n4, a5, n5⟩ := v
  obtain ⟨wa, hwa⟩ : ∃ wa, w.alloc (.cells (ModelV.cs ⟨a1, n1, a2, n2, a3, n3, a4, n4, a5, n5⟩ md).toArray 31) = wa := ⟨_, rfl⟩
  obtain ⟨w1, hw1⟩ : ∃ w1, (wa.alloc (.map #[] 0)).alloc (.cells #[.map (some (w.heap.size + 1))] 51) = w1 := ⟨_, rfl⟩
  have hza : wa.heap.size = w.heap.size + 1 := by rw [← hwa, size_alloc]
  have hba : Below w.heap.size w wa := hwa ▸ (Below.refl _ _).alloc (Nat.le_refl _) _
  have hxa : Arr wa w.heap.size 31 (ModelV.cs ⟨a1, n1, a2, n2, a3, n3, a4, n4, a5, n5⟩ md) := hwa ▸ Arr.new w _ _
  have hb1 : Below w.heap.size w w1 := hw1 ▸ (hba.alloc (by omega) _).alloc (by rw [size_alloc]; omega) _
  have hx1 : Arr w1 w.heap.size 31 (ModelV.cs ⟨a1, n1, a2, n2, a3, n3, a4, n4, a5, n5⟩ md) := hw1 ▸ (hxa.alloc _).alloc _
  have hm1 : KM.MapIs plV okPl w1 (w.heap.size + 1) [] := by
    have := (KM.MapIs.made (val := plV) (ok := okPl) wa).alloc (.cells #[.map (some (w.heap.size + 1))] 51)
    rw [hza, hw1] at this
    exact this
  have hc1 : w1.cell? ⟨w.heap.size + 1 + 1, 0, none⟩ = some (.map (some (w.heap.size + 1))) := by
    have := (Arr.new (wa.alloc (.map #[] 0)) [.map (some (w.heap.size + 1))] 51).cell (j := 0) (by simp)
    rw [size_alloc, hza, show (wa.alloc (.map #[] 0)).alloc (.cells (List.toArray [Value.map (some (w.heap.size + 1))]) 51) = w1 from hw1] at this
    exact this
  have hz1 : w1.heap.size = w.heap.size + 1 + 1 + 1 := by rw [← hw1, size_alloc, size_alloc, hza]
  have HM := Lib.hid hM
  have HX := Lib.hid hx1
  have HB1 := Lib.hid hb1
  have HIM := Lib.hid hm1.isMap
  have HC1 := Lib.hid hc1
  have HF := Lib.hid hf
  have HZ1 := Lib.hid hz1
  have HWA := Lib.hid hwa
  have HW1 : Hid ((wa.alloc (.map #[] 0)).alloc (.cells #[.map (some (w.heap.size + 1))] 51) = w1) := hw1
  have HMT : Hid (MapTo md (S1 0) w1 (w.heap.size + 1)) := ⟨[], hm1, fun p => by
    rw [if_neg (by simp only [S1, decide_eq_true_eq]; omega)]; rfl⟩
  have hkeep : ∀ W, w1.grownBy W (some (w.heap.size + 1)) → Below w.heap.size w W := fun W hg => hb1.grown hg hb1.size (fun j hj => by cases hj; omega)
  have HKP := Lib.hid hkeep
  have heg : ∀ args w, (callFunc 29 args).run Tryz.prog w = .ok (.enter 29 args) w := enters_of Tryz.func29 (by kernel_rfl) rfl
  have hx6 : ∀ W, w1.grownBy W (some (w.heap.size + 1)) → W.cell? ⟨w.heap.size, 3, none⟩ = some (.slice a3 md.stages.length n3) ∧ W.cell? ⟨w.heap.size, 4, none⟩ = some (.slice a4 md.stones.length n4) ∧ W.cell? ⟨w.heap.size + 1 + 1, 0, none⟩ = some (.map (some (w.heap.size + 1))) := fun W hg => by
    obtain ⟨-, -, -, y3, y4, -⟩ := box6 hx1 (Below.refl _ _)
    exact ⟨grown_cell hg y3 HIM.out, grown_cell hg y4 HIM.out, grown_cell hg hc1 HIM.out⟩
  have HX6 := Lib.hid hx6
  obtain ⟨y3, y4, yB⟩ := hx6 w1 (World.grownBy.refl _ _)
  have hmm := @run_makeMap Tryz.prog
  clear hM hx1 hb1 hm1 hc1 hf hz1 hwa hw1 hba hxa hkeep hx6
  go_enter Tryz.func16, Tryz.ntmps16
  go_upto_region 1 with fail
  rw [HWA.out]
  go_upto_region 2 with fail
  rw [HW1.out]
  go_wp2_with fail
  go_loopw [17] (fun i wr => ∃ m : Nat, m ≤ md.stages.length ∧ i = .int .i64 (m : Int) ∧ Hid (MapTo md (S1 m) wr (w.heap.size + 1)) ∧ Hid (w1.grownBy wr (some (w.heap.size + 1)))) (fun i _ => md.stages.length - (intOf i).toNat)
  case atStart => exact ⟨0, Nat.zero_le _, rfl, HMT.out, World.grownBy.refl _ _⟩
  case round =>
    obtain ⟨m, hml, rfl, HMP, HG⟩ := hrel
    obtain ⟨y3, y4, yB⟩ := HX6.out wr HG.out
    by_cases hlt : m < md.stages.length
    · have i1 : (m : Int) < (md.stages.length : Int) := by omega
      have i2 : (0 : Int) ≤ (m : Int) := by omega
      have HML := Lib.hid hlt
      have HBw := Lib.hid (HKP.out wr HG.out)
      obtain ⟨b, off, ha, hbl, d1, e1, d2, e2, s1, s2, c0, c1, c2, c3, c4, c5, c6⟩ := stage_at HM.out hlt
      obtain rfl : a3 = some ⟨b, off, none⟩ := ha
      replace c0 := cellBelow2 HBw.out c0
      replace c1 := cellBelow2 HBw.out c1
      replace c2 := cellBelow2 HBw.out c2
      replace c3 := cellBelow2 HBw.out c3
      replace c4 := cellBelow2 HBw.out c4
      replace c5 := cellBelow2 HBw.out c5
      replace c6 := cellBelow2 HBw.out c6
      have hl1 := (HF.out).stages
      have hfw := few_stage HF.out.many hlt
      have hsl := senL_stage hlt
      have hb8 := (Below.refl wr.heap.size wr).alloc (Nat.le_refl _) (.cells #[.string md.stages[m].name, .int .i64 md.stages[m].inn, .slice d1 md.stages[m].opens.length e1, .slice d2 md.stages[m].closes.length e2, .string md.stages[m].role, .int .i64 md.stages[m].aft, .string md.stages[m].event] 38)
      obtain ⟨ents1, hm1, he1⟩ := HMP.out
      have HP1 := Lib.hid (put_walk 1 (m : Int) md.stages[m].opens d1 e1 (w.heap.size + 1 + 1) (w.heap.size + 1) ents1 _ (by omega) (by omega) (by omega) (cellBelow2 hb8 yB) (hm1.alloc _) ((s1.grow HBw.out).grow hb8))
      have HE1 := Lib.hid he1
      have HS2 := Lib.hid s2
      have HI8 := Lib.hid ((hm1.alloc (.cells #[.string md.stages[m].name, .int .i64 md.stages[m].inn, .slice d1 md.stages[m].opens.length e1, .slice d2 md.stages[m].closes.length e2, .string md.stages[m].role, .int .i64 md.stages[m].aft, .string md.stages[m].event] 38)).isMap)
      have HX8 := Lib.hid (Arr.new wr [.string md.stages[m].name, .int .i64 md.stages[m].inn, .slice d1 md.stages[m].opens.length e1, .slice d2 md.stages[m].closes.length e2, .string md.stages[m].role, .int .i64 md.stages[m].aft, .string md.stages[m].event] 38)
      have HSL := Lib.hid hsl
      have HFW := Lib.hid hfw
      have HL1 := Lib.hid hl1
      have z8 := HX8.out.cell (j := 2) (by simp)
      simp only [List.getElem_cons_zero, List.getElem_cons_succ] at z8
      clear hb8 hm1 he1 s1 s2 hsl hfw hl1 HMP
      go_wp2_with fail
      refine HP1.out.mono ?_
      intro e w3 hpe
      obtain ⟨rfl, hmt, hg3⟩ := hpe.to (S' := S1h m) HE1.out HSL.out.1 (fun p => rfl)
      obtain ⟨ents2, hm2, he2⟩ := hmt
      have hg03 := (HG.out.trans (World.grownBy_alloc _ _ _)).trans hg3
      have HG3 := Lib.hid hg03
      clear y3 y4 yB
      obtain ⟨y3, y4, yB⟩ := HX6.out w3 hg03
      have z9 : w3.cell? ⟨wr.heap.size, 3, none⟩ = some (.slice d2 md.stages[m].closes.length e2) := grown_cell hg3 (HX8.out.cell (j := 3) (by simp)) HI8.out
      have hfw := HFW.out
      have hl1 := HL1.out
      have HP2 := Lib.hid (put_walk 2 (m : Int) md.stages[m].closes d2 e2 (w.heap.size + 1 + 1) (w.heap.size + 1) ents2 w3 (by omega) (by have := HML.out; omega) (by omega) yB hm2 (HS2.out.grow (HKP.out w3 hg03)))
      have HE2 := Lib.hid he2
      clear hpe hm2 he2 hg3 hg03 hfw hl1 z8 HP1
      go_wp2_with fail
      refine HP2.out.mono ?_
      intro e w4 hpe
      obtain ⟨rfl, hmt, hg4⟩ := hpe.to (S' := S1 (m + 1)) HE2.out HSL.out.2 (fun p => S1_next m p)
      have HMT4 := Lib.hid hmt
      have HG4 := Lib.hid (HG3.out.trans hg4)
      have wr1 : IntKind.i64.wrap ((m : Int) + 1) = (m : Int) + 1 := wrap_i64 (by omega) (by have := HML.out; have := HL1.out; omega)
      clear hpe hmt hg4 HP2 z9 y3 y4 yB
      go_wp2_with fail
      refine ⟨⟨m + 1, by have := HML.out; omega, by go_num, HMT4, HG4⟩, by simp only [intOf]; have := HML.out; omega⟩
    · obtain rfl : m = md.stages.length := by omega
      have i1 : ¬ (md.stages.length : Int) < (md.stages.length : Int) := by omega
      have HMT1 := Lib.hid HMP.out
      have HG1 := Lib.hid HG.out
      clear HMP HG
      rename World => W1
      go_wp2_with fail
      go_loopw [36] (fun i wr => ∃ m : Nat, m ≤ md.stones.length ∧ i = .int .i64 (m : Int) ∧ Hid (MapTo md (S2 md.stages.length m) wr (w.heap.size + 1)) ∧ Hid (w1.grownBy wr (some (w.heap.size + 1)))) (fun i _ => md.stones.length - (intOf i).toNat)
      case atStart => exact ⟨0, Nat.zero_le _, rfl, (show MapTo _ _ _ _ from by obtain ⟨en, q1, q2⟩ := HMT1.out; exact ⟨en, q1, fun p => by rw [S2_zero]; exact q2 p⟩), HG1.out⟩
      case round =>
        obtain ⟨m, hml, rfl, HMP, HG⟩ := hrel
        obtain ⟨y3, y4, yB⟩ := HX6.out wr HG.out
        by_cases hlt : m < md.stones.length
        · have i1 : (m : Int) < (md.stones.length : Int) := by omega
          have i2 : (0 : Int) ≤ (m : Int) := by omega
          have HML := Lib.hid hlt
          have HBw := Lib.hid (HKP.out wr HG.out)
          obtain ⟨b, off, ha, hbl, d1, e1, d2, e2, s1, s2, c0, c1, c2⟩ := stone_at HM.out hlt
          obtain rfl : a4 = some ⟨b, off, none⟩ := ha
          replace c0 := cellBelow2 HBw.out c0
          replace c1 := cellBelow2 HBw.out c1
          replace c2 := cellBelow2 HBw.out c2
          have hl1 := (HF.out).stones
          have hfw := few_stone HF.out.many hlt
          have hsl := senL_stone hlt
          have hb8 := (Below.refl wr.heap.size wr).alloc (Nat.le_refl _) (.cells #[.string md.stones[m].name, .slice d1 md.stones[m].done.length e1, .slice d2 md.stones[m].undo.length e2] 58)
          obtain ⟨ents1, hm1, he1⟩ := HMP.out
          have HP1 := Lib.hid (put_walk 3 (m : Int) md.stones[m].done d1 e1 (w.heap.size + 1 + 1) (w.heap.size + 1) ents1 _ (by omega) (by omega) (by omega) (cellBelow2 hb8 yB) (hm1.alloc _) ((s1.grow HBw.out).grow hb8))
          have HE1 := Lib.hid he1
          have HS2 := Lib.hid s2
          have HI8 := Lib.hid ((hm1.alloc (.cells #[.string md.stones[m].name, .slice d1 md.stones[m].done.length e1, .slice d2 md.stones[m].undo.length e2] 58)).isMap)
          have HX8 := Lib.hid (Arr.new wr [.string md.stones[m].name, .slice d1 md.stones[m].done.length e1, .slice d2 md.stones[m].undo.length e2] 58)
          have HSL := Lib.hid hsl
          have HFW := Lib.hid hfw
          have HL1 := Lib.hid hl1
          have z8 := HX8.out.cell (j := 1) (by simp)
          simp only [List.getElem_cons_zero, List.getElem_cons_succ] at z8
          clear hb8 hm1 he1 s1 s2 hsl hfw hl1 HMP
          go_wp2_with fail
          refine HP1.out.mono ?_
          intro e w3 hpe
          obtain ⟨rfl, hmt, hg3⟩ := hpe.to (S' := S2h md.stages.length m) HE1.out HSL.out.1 (fun p => rfl)
          obtain ⟨ents2, hm2, he2⟩ := hmt
          have hg03 := (HG.out.trans (World.grownBy_alloc _ _ _)).trans hg3
          have HG3 := Lib.hid hg03
          clear y3 y4 yB
          obtain ⟨y3, y4, yB⟩ := HX6.out w3 hg03
          have z9 : w3.cell? ⟨wr.heap.size, 2, none⟩ = some (.slice d2 md.stones[m].undo.length e2) := grown_cell hg3 (HX8.out.cell (j := 2) (by simp)) HI8.out
          have hfw := HFW.out
          have hl1 := HL1.out
          have HP2 := Lib.hid (put_walk 4 (m : Int) md.stones[m].undo d2 e2 (w.heap.size + 1 + 1) (w.heap.size + 1) ents2 w3 (by omega) (by have := HML.out; omega) (by omega) yB hm2 (HS2.out.grow (HKP.out w3 hg03)))
          have HE2 := Lib.hid he2
          clear hpe hm2 he2 hg3 hg03 hfw hl1 z8 HP1
          go_wp2_with fail
          refine HP2.out.mono ?_
          intro e w4 hpe
          obtain ⟨rfl, hmt, hg4⟩ := hpe.to (S' := S2 md.stages.length (m + 1)) HE2.out HSL.out.2 (fun p => S2_next _ m p)
          have HMT4 := Lib.hid hmt
          have HG4 := Lib.hid (HG3.out.trans hg4)
          have wr1 : IntKind.i64.wrap ((m : Int) + 1) = (m : Int) + 1 := wrap_i64 (by omega) (by have := HML.out; have := HL1.out; omega)
          clear hpe hmt hg4 HP2 z9 y3 y4 yB
          go_wp2_with fail
          refine ⟨⟨m + 1, by have := HML.out; omega, by go_num, HMT4, HG4⟩, by simp only [intOf]; have := HML.out; omega⟩
        · obtain rfl : m = md.stones.length := by omega
          have i1 : ¬ (md.stones.length : Int) < (md.stones.length : Int) := by omega
          have HMT2 := Lib.hid HMP.out
          have HG2 := Lib.hid HG.out
          clear HMP HG
          rename World => W2
          obtain ⟨ents, hme, hge⟩ := HMT2.out
          have hge2 : ∀ p, KM.getM ents p = senP md p := fun p => by rw [hge, S2_all]
          obtain ⟨hkp, hlen⟩ := whole_keys hme.nodup hge2
          have hmany := HF.out.many
          obtain ⟨N, hN⟩ : ∃ N, ents.length = N := ⟨_, rfl⟩
          have hN1 : N ≤ 128 := by omega
          have hln := hme.len Tryz.underlying51 3
          rw [hN] at hln
          obtain ⟨z, hz, hzs⟩ := elemPl.info
          obtain ⟨ti, hti, hz0, hz1, hz2⟩ := info_parts hz
          obtain ⟨W3, hmk, hrow, hg3⟩ := run_make_own (P := Tryz.prog) W2 W2.heap.size 42 33 ti z 3 elemPl.sl hti hz0 hz1 .i64 .i64 N (by rw [hz2]; omega) (by unfold maxLen; omega) (Nat.le_refl _)
          have hb23 : Below W2.heap.size W2 W3 := (Below.refl _ _).grown hg3 (Nat.le_refl _) (fun j hj => by cases hj)
          have hm3 := hme.below hb23 hme.lt
          have hrg := hm3.range Tryz.underlying51
          rw [hN] at hrg
          obtain ⟨W4, hW4⟩ : ∃ W4, W3.alloc (.mapIter (some (w.heap.size + 1)) N #[] N) = W4 := ⟨_, rfl⟩
          have hb34 : Below W3.heap.size W3 W4 := hW4 ▸ (Below.refl _ _).alloc (Nat.le_refl _) _
          have hI0 : IterIs W4 W3.heap.size (w.heap.size + 1) N [] := hW4 ▸ IterIs.made W3 _ _
          have hm4 : KM.MapIs plV okPl W4 (w.heap.size + 1) ents := hm3.below hb34 hm3.lt
          have ho3 : Own W3 W2.heap.size 33 3 (some ⟨W2.heap.size, 0, none⟩) N 0 [] := ⟨hrow⟩
          have ho4 : Own W4 W2.heap.size 33 3 (some ⟨W2.heap.size, 0, none⟩) N 0 [] := ho3.below hb34 (Nat.le_refl _)
          have hb04 : Below w.heap.size w W4 := (HKP.out W2 HG2.out).trans ((hb23.trans (hb34.mono hb23.size)).mono (HKP.out W2 HG2.out).size)
          have hMlt : w.heap.size + 1 < W2.heap.size := hme.lt
          have hr0 : W2.heap.size ≤ W3.heap.size := hb23.size
          have yB3 := cellBelow2 hb23 yB
          have HB04 := Lib.hid hb04
          have HN := Lib.hid hN
          have HGE := Lib.hid hge2
          have HKY := Lib.hid hkp
          have HI0 := Lib.hid hI0
          have HM4 := Lib.hid hm4
          have HO4 := Lib.hid ho4
          have HB24 := Lib.hid (hb23.trans (hb34.mono hb23.size))
          have HYB := Lib.hid yB
          have HWB := Lib.hid (HKP.out W2 HG2.out)
          have hrl : W3.heap.size < W4.heap.size := by rw [← hW4, size_alloc]; omega
          have HRL := Lib.hid hrl
          rw [hW4] at hrg
          clear hme hge hge2 hkp hlen hmany hz hzs hti hz0 hz1 hz2 hrow hg3 hb23 hm3 hb34 hI0 hm4 ho3 ho4 hb04 hN hW4 hrl HMT2 HMT1 y3 y4
          go_wp2_with fail
          go_loopg [10] N (fun gf l wr => ∃ seen : List Nat, N ≤ seen.length + gf ∧ (∃ g vc, l = .slice (some ⟨g, 0, none⟩) seen.length vc ∧ Hid (Own wr W2.heap.size 33 3 (some ⟨g, 0, none⟩) vc (keysAt ents seen).length ((keysAt ents seen).flatMap plC))) ∧ Hid (IterIs wr W3.heap.size (w.heap.size + 1) N seen) ∧ Hid (KM.MapIs plV okPl wr (w.heap.size + 1) ents) ∧ Hid (Below W2.heap.size W2 wr) ∧ Hid (W3.heap.size < wr.heap.size))
          case atStart => exact ⟨[], by simp, ⟨_, _, rfl, HO4.out⟩, HI0.out, HM4.out, HB24.out, HRL.out⟩
          case round =>
            obtain ⟨seen, hgf, ⟨g, vc, rfl, HO⟩, HI, HMM, HB, HR⟩ := hrel
            have hi1 := HI.out
            rw [← HN.out] at hi1
            have hkl : (keysAt ents seen).length = seen.length := by simp [keysAt]
            rcases HMM.out.next (P := Tryz.prog) hi1 0 with ⟨hall, hnx⟩ | ⟨i, hi, hni, w4, hnx, hM4, hI4, hg4, hz4, hen⟩
            · obtain ⟨hnd, hmem⟩ := keysAt_perm HMM.out.nodup hi1.nodup hi1.inB hall
              have hsl := seen_le hi1.nodup hi1.inB
              have HSO := Lib.hid (sortPlaces W2.heap.size g vc (keysAt ents seen) wr HO.out (by rw [hkl]; have := HN.out; omega))
              rw [hkl] at HSO
              have HND := Lib.hid hnd
              have HME := Lib.hid hmem
              have HKL := Lib.hid hkl
              have yBr := cellBelow2 HB.out HYB.out
              have HOG := Lib.hid (HO.out.lt rfl)
              have HB4' := Lib.hid (cellBelow2 HB.out HYB.out)
              clear hi1 hkl hall hnd hmem hsl HO yBr
              go_wp2_with fail
              refine HSO.out.mono ?_
              rintro e w5 ⟨rfl, l', hp, hs, hO5, hg5⟩
              have hMg : w.heap.size + 1 ≠ g := by have := HOG.out; omega
              have hm5 := HMM.out.kept (hg5.block (w.heap.size + 1) HMM.out.lt (fun e => hMg (Option.some.inj e)))
              have hBl := World.block_lt_of_cell? wr _ HB4'.out
              have hBg : w.heap.size + 1 + 1 ≠ g := by
                have h1 := HOG.out
                have h2 := World.block_lt_of_cell? W2 _ HYB.out
                simp only at h2
                omega
              have yB5 : w5.cell? ⟨w.heap.size + 1 + 1, 0, none⟩ = some (.map (some (w.heap.size + 1))) := by
                rw [World.cell?_of_block (hg5.block _ hBl (fun e => hBg (Option.some.inj e)))]; exact HB4'.out
              have hl' : l' = placesL md := by
                refine sorted_places (hp.nodup_iff.2 HND.out) (fun p => ?_) hs
                rw [hp.mem_iff, HME.out, HKY.out.mem_iff, mem_placesL]
              subst hl'
              have hlen : seen.length = (placesL md).length := by rw [← HKL.out]; exact hp.length_eq.symm
              have hb5 : Below w.heap.size w w5 := (HWB.out.trans (HB.out.mono HWB.out.size)).grown hg5 (by have := HWB.out.size; have := HB.out.size; omega) (fun j hj => by
                cases hj
                have h1 := HOG.out.1
                have h2 := HWB.out.size
                omega)
              have HB5 := Lib.hid hb5
              have HM5 := Lib.hid hm5
              have HGS : Hid (w.heap.size ≤ g ∧ g < w5.heap.size) := by
                show _ ∧ _
                have h1 := HOG.out
                have h2 := HWB.out.size
                have h3 := hg5.size
                omega
              rw [HKL.out, hlen] at hO5
              have HO5 := Lib.hid (flat_own (f := plC) hO5 (by omega) (fun _ => rfl))
              rw [hlen]
              clear hp hs hO5 hg5 hMg hm5 hBl hBg hlen hb5 HSO HND HME HKL HMM HB HOG HB4' hnx HI hgf
              go_wp2_with fail
              go_quiet (fail)
              go_wp2_with fail
              go_ret2
              exact ⟨below_drewN HB5.out _, g, vc, w.heap.size + 1, ents, rfl, HGS.out.1, HGS.out.2, (HO5.out.read).kept (fun _ _ _ => rfl) (Nat.le_refl _), by omega, HM5.out.kept rfl, HGE.out⟩
            · simp only [plV] at hnx hen
              have hiN : i < N := by rw [← HN.out]; exact hi
              obtain ⟨pk, hpk⟩ : ∃ pk, ents[i].1 = pk := ⟨_, rfl⟩
              obtain ⟨u, hu⟩ : ∃ u, ents[i].2 = u := ⟨_, rfl⟩
              rw [hpk, hu] at hnx hen
              have hb4 : Below W2.heap.size W2 w4 := HB.out.grown hg4 HB.out.size (fun j hj => by cases hj; exact hr0)
              have hgr : ∀ g', some (⟨g, 0, none⟩ : Addr) = some ⟨g', 0, none⟩ → some g' ≠ some W3.heap.size := by
                intro g' he e
                cases he
                cases e
                obtain ⟨g'', he, -, -, hc, -⟩ : ∃ g'', (some (⟨W3.heap.size, 0, none⟩ : Addr)) = some ⟨g'', 0, none⟩ ∧ True ∧ True ∧ True ∧ True := ⟨_, rfl, trivial, trivial, trivial, trivial⟩
                rcases HO.out.block with ⟨h1, _⟩ | ⟨g3, h1, -, -, cur, hcur, -⟩
                · cases h1
                · cases h1
                  have := HI.out.heap
                  rw [this] at hcur
                  cases hcur
              have ho4 := HO.out.grown hg4 hgr
              have ho5 := ho4.alloc (.cells #[.int .i64 pk.1, .int .i64 pk.2.1, .int .i64 pk.2.2] 33)
              obtain ⟨g', vc', w6, hap, ho6, hb6, hgg⟩ := own_snocP pk ho5 (by have := hb4.size; rw [size_alloc]; omega) (by
                have := seen_le hi1.nodup hi1.inB
                have := HN.out
                omega)
              rw [hkl, size_alloc] at hap
              have hks : keysAt ents seen ++ [pk] = keysAt ents (seen ++ [i]) := by
                simp only [keysAt, List.map_append, List.map_cons, List.map_nil]
                congr 2
                rw [List.getD_eq_getElem?_getD, List.getElem?_map, List.getElem?_eq_getElem hi, ← hpk]; rfl
              rw [hks] at ho6
              have hb46 : Below W2.heap.size w4 w6 := ((Below.refl _ _).alloc hb4.size _).trans hb6
              have hb5 : Below W2.heap.size W2 w6 := hb4.trans hb46
              have hgr0 : g ≠ W3.heap.size := fun e => hgr g rfl (by rw [e])
              have hg46 := (World.grownBy_alloc w4 (.cells #[.int .i64 pk.1, .int .i64 pk.2.1, .int .i64 pk.2.2] 33) (blockOf (some ⟨g, 0, none⟩))).trans hgg
              have hI6 : IterIs w6 W3.heap.size (w.heap.size + 1) N (seen ++ [i]) := by
                rw [HN.out] at hI4
                exact ⟨(hg46.block _ hI4.lt (fun e => hgr0 (Option.some.inj e).symm)).trans hI4.heap, hI4.inB, hI4.nodup⟩
              have hM6 : KM.MapIs plV okPl w6 (w.heap.size + 1) ents := hM4.below hb46 hMlt
              have hsl6 := seen_le hI6.nodup hI6.inB
              have HI6 := Lib.hid hI6
              have HM6 := Lib.hid hM6
              have hR6 : W3.heap.size < w6.heap.size := Nat.lt_of_lt_of_le (Nat.lt_of_lt_of_le HR.out (Nat.le_of_eq hz4.symm)) hb46.size
              have HR6 := Lib.hid hR6
              have HAP := Lib.hid hap
              have HO6 := Lib.hid ho6
              have HB6 := Lib.hid hb5
              have hgk : 0 < gk := by simp at hsl6; omega
              obtain ⟨g0, rfl⟩ : ∃ g0, gk = g0 + 1 := ⟨gk - 1, by omega⟩
              have HFU : Hid (N ≤ (seen ++ [i]).length + g0) := by show _ ≤ _; simp; omega
              have HLE : Hid ((seen ++ [i]).length = seen.length + 1) := by show _ = _; simp
              clear hi1 hkl hni hM4 hI4 hg4 hz4 hpk hu hgr ho4 ho5 hap ho6 hb6 hgg hks hb46 hb5 hgr0 hg46 hI6 hM6 hsl6 hR6 hgk hgf HO HI HMM HB HR hb4 hi hiN
              go_wp2_with (at_builtin; refine wpList_append_run (by rfl) (.tmp 61) (.tmp 63) 42 (by rfl) (by rfl) (by rfl) HAP.out ?_)
              go_roundg g0
              case measure => omega
              case rel => exact ⟨seen ++ [i], HFU.out, ⟨g', vc', by rw [HLE.out], HO6⟩, HI6, HM6, HB6, HR6⟩
end Go.Proofs.YtfbbkmdhnkmonaaGreatDoor
