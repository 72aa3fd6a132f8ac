/- package state: each at stages, at milestones. A region in whatever order, a condition on the world holding until one operation (the first store) has come up: what only reads may be taken first. -/
import Derived.Test.YtinijohmdljieaaGreatDoorClM
import Derived.Deep.RegionWith
import Derived.OrdersHeld
import Derived.Deep.RegionHeld
namespace Go.Proofs.YtinijohmdljieaaGreatDoor
open Go.RowKit

theorem set_two {α : Type} {k : Nat} (vs : List (List α)) (hw : ∀ v ∈ vs, v.length = k) (m i j : Nat) (x y : α) (h : m < vs.length) (hi : i < k) (hj : j < k) : (vs.flatten.set (m * k + i) x).set (m * k + j) y = (vs.set m ((vs[m].set i x).set j y)).flatten := by
  rw [flatten_set vs hw m i x h hi, flatten_set (vs.set m (vs[m].set i x)) (fun v hv => ?_) m j y (by simpa using h) hj]
  · congr 1
    rw [List.set_set, List.getElem_set_self]
  · rcases List.mem_or_eq_of_mem_set hv with h1 | h1
    · exact hw v h1
    · rw [h1, List.length_set]; exact hw _ (List.getElem_mem h)
theorem cloneSen (a : Option Addr) (c : Nat) (l : List SentryD) (w : World) (hl : l.length ≤ 1048576) (h : Mem false (From 0) w (senD l) (.slice a l.length c)) :
    Calls Tryz.prog 91 #[.slice a l.length c] w fun e w' => ∃ va vc, e = .returned (.slice va l.length vc) ∧ Mem true (From w.heap.size) w' (senD l) (.slice va l.length vc) ∧ Below w.heap.size w w' :=
  clone_flat Tryz.cloneSentry elemSentry a c w (fun _ => rfl) (fun x u hu => by
    simp only [SentryD.cs, List.mem_cons, List.not_mem_nil, or_false] at hu
    rcases hu with rfl | rfl | rfl <;> rfl) hl (by omega) h
/-- two lists of a record made new: what the closure leaves -/
def Two2 (g o1 o2 : Nat) (d1 d2 : D) (n1 n2 : Nat) (w : World) (e : Ending) (w' : World) : Prop :=
  e = .returned (.tuple #[]) ∧ ∃ va vc vb vd w1, Below w.heap.size w w1 ∧ Mem true (From w.heap.size) w1 d1 (.slice va n1 vc) ∧ Mem true (From w.heap.size) w1 d2 (.slice vb n2 vd) ∧ w' = (w1.setCell ⟨g, o1, none⟩ (.slice va n1 vc)).setCell ⟨g, o2, none⟩ (.slice vb n2 vd)
/-- how each ends -/
def EachM (k : Nat) (es : List (List D)) (w : World) (e : Ending) (w' : World) : Prop := ∃ (va : Option Addr) (vc : Nat), e = .returned (.slice va es.length vc) ∧ Mem true (From w.heap.size) w' (.list k es) (.slice va es.length vc) ∧ Below w.heap.size w w'

set_option maxHeartbeats 4000000 in
set_option maxRecDepth 100000 in
theorem stageTwin1 (g o : Nat) (a1 : Option Addr) (y1 : Nat) (a2 : Option Addr) (y2 : Nat) (l1 l2 : List SentryD) (w : World) (c1 : w.cell? ⟨g, o + 2, none⟩ = some (.slice a1 l1.length y1)) (c2 : w.cell? ⟨g, o + 3, none⟩ = some (.slice a2 l2.length y2)) (hf : ∀ j, w.frozen? ⟨g, j, none⟩ = false)
    (hs : Mem false (From 0) w (senD l1) (.slice a1 l1.length y1)) (ms : Mem false (From 0) w (senD l2) (.slice a2 l2.length y2)) (hl : l1.length ≤ 1048576) (ml : l2.length ≤ 1048576) :
    Calls Tryz.prog 90 #[.pointer (some ⟨g, o, none⟩)] w (Two2 g (o + 2) (o + 3) (senD l1) (senD l2) l1.length l2.length w) := by
  have hg : g < w.heap.size := World.block_lt_of_cell? w _ c1
  have HC1 := Lib.hid (fun W (hb : Below w.heap.size w W) => cloneSen a1 y1 l1 W hl (hs.grow hb))
  have HC2 := Lib.hid (fun W (hb : Below w.heap.size w W) => cloneSen a2 y2 l2 W ml (ms.grow hb))
  have HK := Lib.hid (fun W (hb : Below w.heap.size w W) => (⟨cellBelow2 hb c1, cellBelow2 hb c2, by rw [hb.frozen (p := ⟨g, o + 2, none⟩) hg]; exact hf _, by rw [hb.frozen (p := ⟨g, o + 3, none⟩) hg]; exact hf _⟩ : W.cell? ⟨g, o + 2, none⟩ = some (.slice a1 l1.length y1) ∧ W.cell? ⟨g, o + 3, none⟩ = some (.slice a2 l2.length y2) ∧ W.frozen? ⟨g, o + 2, none⟩ = false ∧ W.frozen? ⟨g, o + 3, none⟩ = false))
  clear hs ms hl ml hf
  have hq0 := (Below.refl w.heap.size w).drew
  go_enter Tryz.func90, Tryz.ntmps90
  go_wp2_with fail
  go_region_with (first
    | (go_at_call 91; refine (HC1.out _ hq0).mono ?_; rintro e W1 ⟨va, vc, rfl, hO1, hb1⟩; have hq1 := hq0.trans (hb1.mono hq0.size); obtain ⟨k1, k2, k3, k4⟩ := HK.out _ hq1; clear HC1)
    | (go_at_call 91; refine (HC2.out _ hq1).mono ?_; rintro e W2 ⟨vb, vd, rfl, hO2, hb2⟩; have hq2 := hq1.trans (hb2.mono hq1.size); obtain ⟨m1, m2, m3, m4⟩ := HK.out _ hq2; clear HC2))
  all_goals
    go_end0
    exact ⟨rfl, va, vc, vb, vd, W2, hq2, (hO1.grow hb2).weak (fun b hb _ => hb), hO2.weak (fun b hb _ => Nat.le_trans hq1.size hb), rfl⟩

set_option maxHeartbeats 4000000 in
set_option maxRecDepth 100000 in
theorem stoneTwin2 (g o : Nat) (a1 : Option Addr) (y1 : Nat) (a2 : Option Addr) (y2 : Nat) (l1 l2 : List SentryD) (w : World) (c1 : w.cell? ⟨g, o + 1, none⟩ = some (.slice a1 l1.length y1)) (c2 : w.cell? ⟨g, o + 2, none⟩ = some (.slice a2 l2.length y2)) (hf : ∀ j, w.frozen? ⟨g, j, none⟩ = false)
    (hs : Mem false (From 0) w (senD l1) (.slice a1 l1.length y1)) (ms : Mem false (From 0) w (senD l2) (.slice a2 l2.length y2)) (hl : l1.length ≤ 1048576) (ml : l2.length ≤ 1048576) :
    Calls Tryz.prog 93 #[.pointer (some ⟨g, o, none⟩)] w (Two2 g (o + 1) (o + 2) (senD l1) (senD l2) l1.length l2.length w) := by
  have hg : g < w.heap.size := World.block_lt_of_cell? w _ c1
  have HC1 := Lib.hid (fun W (hb : Below w.heap.size w W) => cloneSen a1 y1 l1 W hl (hs.grow hb))
  have HC2 := Lib.hid (fun W (hb : Below w.heap.size w W) => cloneSen a2 y2 l2 W ml (ms.grow hb))
  have HK := Lib.hid (fun W (hb : Below w.heap.size w W) => (⟨cellBelow2 hb c1, cellBelow2 hb c2, by rw [hb.frozen (p := ⟨g, o + 1, none⟩) hg]; exact hf _, by rw [hb.frozen (p := ⟨g, o + 2, none⟩) hg]; exact hf _⟩ : W.cell? ⟨g, o + 1, none⟩ = some (.slice a1 l1.length y1) ∧ W.cell? ⟨g, o + 2, none⟩ = some (.slice a2 l2.length y2) ∧ W.frozen? ⟨g, o + 1, none⟩ = false ∧ W.frozen? ⟨g, o + 2, none⟩ = false))
  clear hs ms hl ml hf
  have hq0 := (Below.refl w.heap.size w).drew
  go_enter Tryz.func93, Tryz.ntmps93
  go_wp2_with fail
  go_region_with (first
    | (go_at_call 91; refine (HC1.out _ hq0).mono ?_; rintro e W1 ⟨va, vc, rfl, hO1, hb1⟩; have hq1 := hq0.trans (hb1.mono hq0.size); obtain ⟨k1, k2, k3, k4⟩ := HK.out _ hq1; clear HC1)
    | (go_at_call 91; refine (HC2.out _ hq1).mono ?_; rintro e W2 ⟨vb, vd, rfl, hO2, hb2⟩; have hq2 := hq1.trans (hb2.mono hq1.size); obtain ⟨m1, m2, m3, m4⟩ := HK.out _ hq2; clear HC2))
  all_goals
    go_end0
    exact ⟨rfl, va, vc, vb, vd, W2, hq2, (hO1.grow hb2).weak (fun b hb _ => hb), hO2.weak (fun b hb _ => Nat.le_trans hq1.size hb), rfl⟩

set_option maxHeartbeats 4000000 in
set_option maxRecDepth 100000 in
theorem eachStages (l : List StageD) (a : Option Addr) (c : Nat) (w : World) (hl : l.length ≤ 1048576) (hn : ∀ r ∈ l, r.opens.length ≤ 1048576 ∧ r.closes.length ≤ 1048576) (h : Mem false (From 0) w (.list 7 (l.map StageD.ds)) (.slice a l.length c)) :
    Calls Tryz.prog 89 #[.slice a l.length c, .func (.func 90) #[] #[]] w (EachM 7 (l.map StageD.ds) w) := by
  obtain ⟨a', c', b, off, vs0, he, -, hC⟩ := h.listInv
  have hml : (l.map StageD.ds).length = l.length := List.length_map ..
  rw [hml] at he
  injection he with e1 e2 e3
  subst e1 e3
  have hv0 : vs0.length = l.length := by rw [hC.len, hml]
  have hrow : ∀ j (hj : j < l.length) (hj' : j < vs0.length), MemL false (From 0) w l[j].ds vs0[j] := fun j hj hj' => by
    have := hC.row j (by rw [hml]; exact hj) hj'
    rw [List.getElem_map] at this
    exact this
  have h1 : ∀ v ∈ vs0, ∀ u ∈ v, u.oneCell' = true := by
    intro v hv u hu
    obtain ⟨j, hj, rfl⟩ := List.mem_iff_getElem.1 hv
    obtain ⟨x1, y1, x2, y2, hus, -, -⟩ := StageD.cells (hrow j (by rw [← hv0]; exact hj) hj)
    rw [hus] at hu
    simp only [List.mem_cons, List.not_mem_nil, or_false] at hu
    rcases hu with rfl | rfl | rfl | rfl | rfl | rfl | rfl <;> rfl
  have hCL := clone_rows Tryz.cloneStage elemStage c (by rw [hml]; exact hl) (by omega) hC h1
  rw [hml] at hCL
  have HCL := Lib.hid hCL
  have hw0 : ∀ v ∈ vs0, v.length = 7 := by
    intro v hv
    obtain ⟨j, hj, rfl⟩ := List.mem_iff_getElem.1 hv
    obtain ⟨x1, y1, x2, y2, hus, -, -⟩ := StageD.cells (hrow j (by rw [← hv0]; exact hj) hj)
    rw [hus]; rfl
  have HW0 := Lib.hid hw0
  have HR := Lib.hid hrow
  have HN := Lib.hid hn
  have HV0 := Lib.hid hv0
  obtain ⟨n, hn'⟩ : ∃ n, l.length = n := ⟨_, rfl⟩
  have HEND : Hid (∀ va vc W, Mem true (From w.heap.size) W (.list 7 (l.map StageD.ds)) (.slice va n vc) → Below w.heap.size w W → EachM 7 (l.map StageD.ds) w (.returned (.slice va n vc)) W) := fun va vc W h1 h2 => ⟨va, vc, by rw [hml, hn'], by rw [hml, hn']; exact h1, h2⟩
  rw [hn'] at HCL ⊢
  have HLN := Lib.hid hn'
  have HE := Lib.hid (enters_of Tryz.func90 (by kernel_rfl) rfl : ∀ (args : Array Value) (w : World), (callFunc 90 args).run Tryz.prog w = .ok (.enter 90 args) w)
  have hl' : n ≤ 1048576 := by omega
  clear h hC h1 hCL hw0 hrow hn hn' hl hml hv0 e2
  go_enter Tryz.func89, Tryz.ntmps89
  go_wp2_with fail
  refine HCL.out.mono ?_
  rintro e w2 ⟨va, vc, rfl, hO, hb⟩
  have HO := Lib.hid hO
  have HB := Lib.hid hb
  clear hO hb HCL
  by_cases h0 : n = 0
  · subst h0
    have hnil : Hid (l = []) := List.eq_nil_of_length_eq_zero HLN.out
    go_wp2_with fail
    go_loopw [11] (fun i wr => i = .int .i64 0 ∧ wr = w2) (fun _ _ => 0)
    case atStart => exact ⟨rfl, rfl⟩
    case round =>
      obtain ⟨rfl, rfl⟩ := hrel
      go_wp2_with fail
      go_ret
      refine HEND.out _ _ _ ?_ HB.out
      have hvn : vs0 = [] := List.eq_nil_of_length_eq_zero (by rw [HV0.out, HLN.out])
      have ho := HO.out
      rw [hvn] at ho
      rw [hnil.out]
      exact memOwn (es := []) (vs := []) ho (by omega) rfl (fun v hv => absurd hv (by simp)) (fun v hv => absurd hv (by simp)) (fun j h1 => absurd h1 (by simp))
  · obtain ⟨g, rfl⟩ : ∃ g, va = some ⟨g, 0, none⟩ := by
      rcases HO.out.block with ⟨_, h1, _⟩ | ⟨g, h1, _⟩
      · exact absurd h1 h0
      · exact ⟨g, h1⟩
    have hlm : (l.map StageD.ds).length = n := by rw [List.length_map]; exact HLN.out
    have HLM := Lib.hid hlm
    have HX : Hid (EM 113 7 w.heap.size w w2 (l.map StageD.ds) 0 g vc vs0 vs0) := EM.start (by rw [hlm]; exact HO.out) HB.out (Nat.le_refl _) (by rw [hlm, HV0.out, HLN.out]) HW0.out
    clear hlm HO HB
    go_wp2_with fail
    go_loopw [11] (fun i wr => ∃ (m : Nat) (vs : List (List Value)), m ≤ n ∧ i = .int .i64 (m : Int) ∧ Hid (EM 113 7 w.heap.size w wr (l.map StageD.ds) m g vc vs0 vs)) (fun i _ => n - (intOf i).toNat)
    case atStart => exact ⟨0, vs0, Nat.zero_le _, rfl, HX.out⟩
    case round =>
      clear HX
      obtain ⟨m, vs, hm, rfl, HX⟩ := hrel
      by_cases hml : m < n
      · have i1 : (m : Int) < (n : Int) := by omega
        have i2 : (0 : Int) ≤ (m : Int) := by omega
        have hmk : m < l.length := by rw [HLN.out]; exact hml
        have hmv0 : m < vs0.length := by rw [HV0.out]; exact hmk
        have hmm : m < (l.map StageD.ds).length := by rw [HLM.out]; exact hml
        have hmv : m < vs.length := by rw [HX.out.len]; exact hmm
        obtain ⟨x1, y1, x2, y2, hus, hg1, hg2⟩ := StageD.cells (HR.out m hmk hmv0)
        obtain ⟨q1, q2⟩ := HN.out _ (List.getElem_mem hmk)
        have HTW := Lib.hid (stageTwin1 g (m * 7) x1 y1 x2 y2 l[m].opens l[m].closes wr (HX.out.cell hmm hmv0 2 (by omega) _ (by rw [hus]; rfl)) (HX.out.cell hmm hmv0 3 (by omega) _ (by rw [hus]; rfl)) (HX.out.frz hmm (by omega)) (hg1.grow HX.out.below) (hg2.grow HX.out.below) q1 q2)
        have HUS : Hid (vs[m] = [.string l[m].name, .int .i64 l[m].inn, .slice x1 l[m].opens.length y1, .slice x2 l[m].closes.length y2, .string l[m].role, .int .i64 l[m].aft, .string l[m].event]) := by show _ = _; rw [HX.out.old m hmv0 hmv (Nat.le_refl _), hus]
        have wr1 : IntKind.i64.wrap ((m : Int) + 1) = (m : Int) + 1 := wrap_i64 (by omega) (by omega)
        have he := HE.out
        clear q1 q2 hg1 hg2 hus
        go_wp2_with fail
        refine HTW.out.mono ?_
        rintro e w4 ⟨rfl, va, vd, vb, ve, w5, hb5, hn1, hn2, rfl⟩
        have HNX : Hid (EM 113 7 w.heap.size w ((w5.setCell ⟨g, m * 7 + 2, none⟩ (.slice va l[m].opens.length vd)).setCell ⟨g, m * 7 + 3, none⟩ (.slice vb l[m].closes.length ve)) (l.map StageD.ds) (m + 1) g vc vs0 (vs.set m ((vs[m].set 2 (.slice va l[m].opens.length vd)).set 3 (.slice vb l[m].closes.length ve)))) := by
          obtain ⟨hgb, hgl⟩ := HX.out.lt
          refine HX.out.next hmm (W1 := w5) (by rw [HUS.out]; rfl) hb5 ?_ ?_ ?_ ?_ ?_
          · rw [HUS.out, List.getElem_map]
            exact .cons (.atom _) (.cons (.atom _) (.cons hn1 (.cons hn2 (.cons (.atom _) (.cons (.atom _) (.cons (.atom _) (MemL.nil _ _ _)))))))
          · have ho := (((HX.out.own.below hb5 (Nat.le_refl _)).set (j := m * 7 + 2) (.slice va l[m].opens.length vd)).set (j := m * 7 + 3) (.slice vb l[m].closes.length ve))
            rw [set_two vs HX.out.wid m 2 3 _ _ hmv (by omega) (by omega)] at ho
            exact ho
          · exact ((HX.out.below.trans (hb5.mono HX.out.below.size)).setCell (p := ⟨g, m * 7 + 2, none⟩) hgb _).setCell (p := ⟨g, m * 7 + 3, none⟩) hgb _
          · intro q hq hne
            rw [Below.heap_setCell _ ⟨g, m * 7 + 3, none⟩ _ q hne, Below.heap_setCell _ ⟨g, m * 7 + 2, none⟩ _ q hne]
          · simp [World.setCell]
        clear hb5 hn1 hn2 HTW HX
        go_wp2_with fail
        exact ⟨⟨m + 1, _, by omega, rfl, HNX⟩, by simp only [intOf]; omega⟩
      · obtain rfl : m = n := by omega
        have i1 : ¬ (m : Int) < (m : Int) := by omega
        have hdn := HX.out
        rw [← HLM.out] at hdn
        have hfin := hdn.done (by omega) (fun e he => by obtain ⟨r, -, rfl⟩ := List.mem_map.1 he; rfl)
        rw [HLM.out] at hfin
        have HF := Lib.hid hfin
        have HB9 := Lib.hid HX.out.below
        clear hdn hfin HX
        go_wp2_with fail
        go_ret
        exact HEND.out _ _ _ HF.out HB9.out

set_option maxHeartbeats 4000000 in
set_option maxRecDepth 100000 in
theorem eachStones (l : List StoneD) (a : Option Addr) (c : Nat) (w : World) (hl : l.length ≤ 1048576) (hn : ∀ r ∈ l, r.done.length ≤ 1048576 ∧ r.undo.length ≤ 1048576) (h : Mem false (From 0) w (.list 3 (l.map StoneD.ds)) (.slice a l.length c)) :
    Calls Tryz.prog 92 #[.slice a l.length c, .func (.func 93) #[] #[]] w (EachM 3 (l.map StoneD.ds) w) := by
  obtain ⟨a', c', b, off, vs0, he, -, hC⟩ := h.listInv
  have hml : (l.map StoneD.ds).length = l.length := List.length_map ..
  rw [hml] at he
  injection he with e1 e2 e3
  subst e1 e3
  have hv0 : vs0.length = l.length := by rw [hC.len, hml]
  have hrow : ∀ j (hj : j < l.length) (hj' : j < vs0.length), MemL false (From 0) w l[j].ds vs0[j] := fun j hj hj' => by
    have := hC.row j (by rw [hml]; exact hj) hj'
    rw [List.getElem_map] at this
    exact this
  have h1 : ∀ v ∈ vs0, ∀ u ∈ v, u.oneCell' = true := by
    intro v hv u hu
    obtain ⟨j, hj, rfl⟩ := List.mem_iff_getElem.1 hv
    obtain ⟨x1, y1, x2, y2, hus, -, -⟩ := StoneD.cells (hrow j (by rw [← hv0]; exact hj) hj)
    rw [hus] at hu
    simp only [List.mem_cons, List.not_mem_nil, or_false] at hu
    rcases hu with rfl | rfl | rfl <;> rfl
  have hCL := clone_rows Tryz.cloneStone elemStone c (by rw [hml]; exact hl) (by omega) hC h1
  rw [hml] at hCL
  have HCL := Lib.hid hCL
  have hw0 : ∀ v ∈ vs0, v.length = 3 := by
    intro v hv
    obtain ⟨j, hj, rfl⟩ := List.mem_iff_getElem.1 hv
    obtain ⟨x1, y1, x2, y2, hus, -, -⟩ := StoneD.cells (hrow j (by rw [← hv0]; exact hj) hj)
    rw [hus]; rfl
  have HW0 := Lib.hid hw0
  have HR := Lib.hid hrow
  have HN := Lib.hid hn
  have HV0 := Lib.hid hv0
  obtain ⟨n, hn'⟩ : ∃ n, l.length = n := ⟨_, rfl⟩
  have HEND : Hid (∀ va vc W, Mem true (From w.heap.size) W (.list 3 (l.map StoneD.ds)) (.slice va n vc) → Below w.heap.size w W → EachM 3 (l.map StoneD.ds) w (.returned (.slice va n vc)) W) := fun va vc W h1 h2 => ⟨va, vc, by rw [hml, hn'], by rw [hml, hn']; exact h1, h2⟩
  rw [hn'] at HCL ⊢
  have HLN := Lib.hid hn'
  have HE := Lib.hid (enters_of Tryz.func93 (by kernel_rfl) rfl : ∀ (args : Array Value) (w : World), (callFunc 93 args).run Tryz.prog w = .ok (.enter 93 args) w)
  have hl' : n ≤ 1048576 := by omega
  clear h hC h1 hCL hw0 hrow hn hn' hl hml hv0 e2
  go_enter Tryz.func92, Tryz.ntmps92
  go_wp2_with fail
  refine HCL.out.mono ?_
  rintro e w2 ⟨va, vc, rfl, hO, hb⟩
  have HO := Lib.hid hO
  have HB := Lib.hid hb
  clear hO hb HCL
  by_cases h0 : n = 0
  · subst h0
    have hnil : Hid (l = []) := List.eq_nil_of_length_eq_zero HLN.out
    go_wp2_with fail
    go_loopw [11] (fun i wr => i = .int .i64 0 ∧ wr = w2) (fun _ _ => 0)
    case atStart => exact ⟨rfl, rfl⟩
    case round =>
      obtain ⟨rfl, rfl⟩ := hrel
      go_wp2_with fail
      go_ret
      refine HEND.out _ _ _ ?_ HB.out
      have hvn : vs0 = [] := List.eq_nil_of_length_eq_zero (by rw [HV0.out, HLN.out])
      have ho := HO.out
      rw [hvn] at ho
      rw [hnil.out]
      exact memOwn (es := []) (vs := []) ho (by omega) rfl (fun v hv => absurd hv (by simp)) (fun v hv => absurd hv (by simp)) (fun j h1 => absurd h1 (by simp))
  · obtain ⟨g, rfl⟩ : ∃ g, va = some ⟨g, 0, none⟩ := by
      rcases HO.out.block with ⟨_, h1, _⟩ | ⟨g, h1, _⟩
      · exact absurd h1 h0
      · exact ⟨g, h1⟩
    have hlm : (l.map StoneD.ds).length = n := by rw [List.length_map]; exact HLN.out
    have HLM := Lib.hid hlm
    have HX : Hid (EM 116 3 w.heap.size w w2 (l.map StoneD.ds) 0 g vc vs0 vs0) := EM.start (by rw [hlm]; exact HO.out) HB.out (Nat.le_refl _) (by rw [hlm, HV0.out, HLN.out]) HW0.out
    clear hlm HO HB
    go_wp2_with fail
    go_loopw [11] (fun i wr => ∃ (m : Nat) (vs : List (List Value)), m ≤ n ∧ i = .int .i64 (m : Int) ∧ Hid (EM 116 3 w.heap.size w wr (l.map StoneD.ds) m g vc vs0 vs)) (fun i _ => n - (intOf i).toNat)
    case atStart => exact ⟨0, vs0, Nat.zero_le _, rfl, HX.out⟩
    case round =>
      clear HX
      obtain ⟨m, vs, hm, rfl, HX⟩ := hrel
      by_cases hml : m < n
      · have i1 : (m : Int) < (n : Int) := by omega
        have i2 : (0 : Int) ≤ (m : Int) := by omega
        have hmk : m < l.length := by rw [HLN.out]; exact hml
        have hmv0 : m < vs0.length := by rw [HV0.out]; exact hmk
        have hmm : m < (l.map StoneD.ds).length := by rw [HLM.out]; exact hml
        have hmv : m < vs.length := by rw [HX.out.len]; exact hmm
        obtain ⟨x1, y1, x2, y2, hus, hg1, hg2⟩ := StoneD.cells (HR.out m hmk hmv0)
        obtain ⟨q1, q2⟩ := HN.out _ (List.getElem_mem hmk)
        have HTW := Lib.hid (stoneTwin2 g (m * 3) x1 y1 x2 y2 l[m].done l[m].undo wr (HX.out.cell hmm hmv0 1 (by omega) _ (by rw [hus]; rfl)) (HX.out.cell hmm hmv0 2 (by omega) _ (by rw [hus]; rfl)) (HX.out.frz hmm (by omega)) (hg1.grow HX.out.below) (hg2.grow HX.out.below) q1 q2)
        have HUS : Hid (vs[m] = [.string l[m].name, .slice x1 l[m].done.length y1, .slice x2 l[m].undo.length y2]) := by show _ = _; rw [HX.out.old m hmv0 hmv (Nat.le_refl _), hus]
        have wr1 : IntKind.i64.wrap ((m : Int) + 1) = (m : Int) + 1 := wrap_i64 (by omega) (by omega)
        have he := HE.out
        clear q1 q2 hg1 hg2 hus
        go_wp2_with fail
        refine HTW.out.mono ?_
        rintro e w4 ⟨rfl, va, vd, vb, ve, w5, hb5, hn1, hn2, rfl⟩
        have HNX : Hid (EM 116 3 w.heap.size w ((w5.setCell ⟨g, m * 3 + 1, none⟩ (.slice va l[m].done.length vd)).setCell ⟨g, m * 3 + 2, none⟩ (.slice vb l[m].undo.length ve)) (l.map StoneD.ds) (m + 1) g vc vs0 (vs.set m ((vs[m].set 1 (.slice va l[m].done.length vd)).set 2 (.slice vb l[m].undo.length ve)))) := by
          obtain ⟨hgb, hgl⟩ := HX.out.lt
          refine HX.out.next hmm (W1 := w5) (by rw [HUS.out]; rfl) hb5 ?_ ?_ ?_ ?_ ?_
          · rw [HUS.out, List.getElem_map]
            exact .cons (.atom _) (.cons hn1 (.cons hn2 (MemL.nil _ _ _)))
          · have ho := (((HX.out.own.below hb5 (Nat.le_refl _)).set (j := m * 3 + 1) (.slice va l[m].done.length vd)).set (j := m * 3 + 2) (.slice vb l[m].undo.length ve))
            rw [set_two vs HX.out.wid m 1 2 _ _ hmv (by omega) (by omega)] at ho
            exact ho
          · exact ((HX.out.below.trans (hb5.mono HX.out.below.size)).setCell (p := ⟨g, m * 3 + 1, none⟩) hgb _).setCell (p := ⟨g, m * 3 + 2, none⟩) hgb _
          · intro q hq hne
            rw [Below.heap_setCell _ ⟨g, m * 3 + 2, none⟩ _ q hne, Below.heap_setCell _ ⟨g, m * 3 + 1, none⟩ _ q hne]
          · simp [World.setCell]
        clear hb5 hn1 hn2 HTW HX
        go_wp2_with fail
        exact ⟨⟨m + 1, _, by omega, rfl, HNX⟩, by simp only [intOf]; omega⟩
      · obtain rfl : m = n := by omega
        have i1 : ¬ (m : Int) < (m : Int) := by omega
        have hdn := HX.out
        rw [← HLM.out] at hdn
        have hfin := hdn.done (by omega) (fun e he => by obtain ⟨r, -, rfl⟩ := List.mem_map.1 he; rfl)
        rw [HLM.out] at hfin
        have HF := Lib.hid hfin
        have HB9 := Lib.hid HX.out.below
        clear hdn hfin HX
        go_wp2_with fail
        go_ret
        exact HEND.out _ _ _ HF.out HB9.out

end Go.Proofs.YtinijohmdljieaaGreatDoor

namespace Go.Proofs.YtinijohmdljieaaGreatDoor
open Go

section
variable {P : Program} {ops : Array Oper} {Q : Exit → Act → World → Prop} {md : Region.Mode} {S : World → Prop} {st : Nat}
/-- the rest of a region; S holds behind each operation as long as number st has not come up -/
def Until (P : Program) (md : Region.Mode) (ops : Array Oper) (Q : Exit → Act → World → Prop) (S : World → Prop) (st : Nat) : Nat → Array Bool → Act → World → Prop
  | 0, l, a, w => Region.ready md ops l = [] ∧ Q .normal a w
  | n + 1, l, a, w => (Region.ready md ops l = [] → Q .normal a w) ∧ ∀ i ∈ Region.ready md ops l, wpOp P ops Q i (fun a' w' => ((l.setIfInBounds i true).getD st true = false → S w') ∧ Until P md ops Q S st n (l.setIfInBounds i true) a' w') a w
theorem Until.any : ∀ (n : Nat) (l : Array Bool) (a : Act) (w : World), Until P md ops Q S st n l a w → wpAny P md ops Q n l a w
  | 0, _, _, _, h => h
  | n + 1, _, _, _, h => ⟨h.1, fun i hi => wpOp_mono (fun a' w' h' => Until.any n _ a' w' h'.2) (h.2 i hi)⟩
theorem Until.first {i : Nat} {oi : Oper} {v : Value} {T : World → Prop} (hi : ops[i]? = some oi) (hsel : Region.noSelect ops = true) (hQ : ∀ c a w, Q (.panic c) (a.put oi.dst v) w → Q (.panic c) a w) (hne : i ≠ st)
    (hT : (∀ w, T w) ∨ (T = S ∧ ∃ o, ops[st]? = some o ∧ ∃ e ∈ o.after, Region.binds md e = true ∧ e.on = i)) :
    ∀ (n : Nat) (l : Array Bool) (a : Act) (w : World), (∀ j oj, ops[j]? = some oj → j ≠ i → l.getD j true = false → (∀ e ∈ oj.after, Region.binds md e = true → e.on ≠ i) → oi.apart ops oj = true) →
      i ∈ Region.ready md ops l → YieldsIf P ops T oi v a → T w → (l.getD st true = false → S w) → ((∀ w, T w) ∨ l.getD st true = false) → Until P md ops Q S st n (l.setIfInBounds i true) (a.put oi.dst v) w → Until P md ops Q S st (n + 1) l a w := by
  have hs := Region.noSelect_spec hsel
  intro n
  induction n with
  | zero =>
    intro l a w _ hr hy hw hl _ H
    refine ⟨fun h => absurd (h ▸ hr) (by simp), fun j hj => ?_⟩
    rcases Nat.decEq j i with hji | hji
    · have h2 := ready_mono hj hji
      rw [H.1] at h2
      exact absurd h2 (by simp)
    · subst hji
      exact hy.wpOp hi hw ⟨fun h => hl (by rw [getD_set_ne true hne] at h; exact h), H⟩
  | succ n ih =>
    intro l a w hf hr hy hw hl hfl H
    refine ⟨fun h => absurd (h ▸ hr) (by simp), fun j hj => ?_⟩
    rcases Nat.decEq j i with hji | hji
    · obtain ⟨hj0, oj, hoj, hwait⟩ := mem_ready.1 hj
      have hun := (mem_ready.1 hr).1
      have hno : ∀ e ∈ oj.after, Region.binds md e = true → e.on ≠ i := by
        intro e he hb heq
        have h1 := hwait e he hb
        rw [heq] at h1
        by_cases hlt : i < l.size
        · rw [Array.getD_eq_getD_getElem?, Array.getElem?_eq_getElem hlt] at h1 hun
          simp at h1 hun
          rw [h1] at hun; cases hun
        · rw [Array.getD_eq_getD_getElem?, Array.getElem?_eq_none (by omega)] at h1
          simp at h1
      have hjst : (∃ o, ops[st]? = some o ∧ ∃ e ∈ o.after, Region.binds md e = true ∧ e.on = i) → j ≠ st := by
        rintro ⟨o, ho, e, he, hb, heq⟩ rfl
        rw [hoj] at ho
        injection ho with ho
        subst ho
        exact hno e he hb heq
      have h2 := wpOp_putIf hoj (hf j oj hoj hji hj0 hno) (fun cs b => hs i oi cs b hi) (fun cs b => hs j oj cs b hoj) hQ hy (H.2 j (ready_mono hj hji))
      refine wpOp_mono (fun a' w' h3 => ?_) h2
      obtain ⟨h3, h4, h5⟩ := h3
      have hS : (l.setIfInBounds j true).getD st true = false → S w' := fun h => h4 (by
        by_cases hjs : j = st
        · rw [hjs]; rw [hjs] at h
          rw [Array.setIfInBounds_comm _ _ hne, getD_set_ne true hne]; exact h
        · rw [getD_set_ne true hjs, getD_set_ne true hne]
          rw [getD_set_ne true hjs] at h; exact h)
      have hTw : T w' := by
        rcases hT with hT | ⟨rfl, hT⟩
        · exact hT _
        · rcases hfl with hfl | hfl
          · exact hfl _
          · exact hS (by rw [getD_set_ne true (hjst hT)]; exact hfl)
      refine ⟨hS, ih (l.setIfInBounds j true) a' w' (fun k ok hk hki hkl hkn => hf k ok hk hki ?_ hkn) (ready_mono hr (fun h => hji h.symm)) h3 hTw hS ?_ ?_⟩
      · by_cases hjk : j = k
        · rw [← hjk]; exact hj0
        · rw [getD_set_ne true hjk] at hkl; exact hkl
      · rcases hT with hT | ⟨rfl, hT⟩
        · exact .inl hT
        · exact hfl.imp id fun h => by rw [getD_set_ne true (hjst hT)]; exact h
      · rw [Array.setIfInBounds_comm _ _ hji]; exact h5
    · subst hji
      exact hy.wpOp hi hw ⟨fun h => hl (by rw [getD_set_ne true hne] at h; exact h), H⟩
/-- an operation that yields in whatever world may be taken first -/
theorem Until.take {i : Nat} {oi : Oper} {v : Value} {n : Nat} {l : Array Bool} {a : Act} {w : World} (hi : ops[i]? = some oi) (hs : Region.noSelect ops = true) (hf : Region.free md ops l i = true) (hr : (Region.ready md ops l).contains i = true) (hQ : ∀ c a w, Q (.panic c) (a.put oi.dst v) w → Q (.panic c) a w) (hne : i ≠ st)
    (hy : YieldsIf P ops (fun _ => True) oi v a) (hS : l.getD st true = false → S w) (h : Until P md ops Q S st n (l.setIfInBounds i true) (a.put oi.dst v) w) : Until P md ops Q S st (n + 1) l a w :=
  Until.first (T := fun _ => True) hi hs hQ hne (.inl fun _ => trivial) n l a w (Region.free_spec hi hf) (by simpa using hr) hy trivial hS (.inl fun _ => trivial) h
/-- .. a load too, where number st waits for it -/
theorem Until.load {i : Nat} {oi : Oper} {v : Value} {n : Nat} {l : Array Bool} {a : Act} {w : World} (hi : ops[i]? = some oi) (hs : Region.noSelect ops = true) (hf : Region.free md ops l i = true) (hr : (Region.ready md ops l).contains i = true) (hQ : ∀ c a w, Q (.panic c) (a.put oi.dst v) w → Q (.panic c) a w) (hne : i ≠ st)
    (hl : l.getD st true = false) (hw : (match ops[st]? with | some o => o.after.any fun e => Region.binds md e && e.on == i | none => false) = true) (hy : YieldsIf P ops S oi v a) (hS : S w) (h : Until P md ops Q S st n (l.setIfInBounds i true) (a.put oi.dst v) w) : Until P md ops Q S st (n + 1) l a w := by
  refine Until.first (T := S) hi hs hQ hne (.inr ⟨rfl, ?_⟩) n l a w (Region.free_spec hi hf) (by simpa using hr) hy hS (fun _ => hS) (.inr hl) h
  cases ho : ops[st]? with
  | none => rw [ho] at hw; cases hw
  | some o =>
    rw [ho] at hw
    obtain ⟨e, he, hb⟩ := Array.any_eq_true'.1 hw
    simp only [Bool.and_eq_true, beq_iff_eq] at hb
    exact ⟨o, rfl, e, he, hb.1, hb.2⟩
/-- the one operation that may come up -/
theorem Until.one {i : Nat} {o : Oper} {n : Nat} {l : Array Bool} {a : Act} {w : World} (hr : Region.ready md ops l = [i]) (ho : ops[i]? = some o)
    (h : ∀ K : Act → World → Prop, Shut (∀ a w, ((l.setIfInBounds i true).getD st true = false → S w) → Until P md ops Q S st n (l.setIfInBounds i true) a w → K a w) → if Region.wanted o (yielded ops a.tmps) = true then Oper.wp P o a w K Q else K (a.put o.dst undef) w) : Until P md ops Q S st (n + 1) l a w := by
  refine ⟨fun h0 => absurd (hr ▸ h0) (by simp), fun j hj => ?_⟩
  rw [hr, List.mem_singleton] at hj
  subst hj
  exact wpOp_step ho fun K hK => h K fun a w h1 h2 => hK a w ⟨h1, h2⟩
theorem Until.done {l : Array Bool} {a : Act} {w : World} (hr : Region.ready md ops l = []) (h : Q .normal a w) : ∀ n, Until P md ops Q S st n l a w
  | 0 => ⟨hr, h⟩
  | _ + 1 => ⟨fun _ => h, by rw [hr]; simp⟩
theorem Until.start {id : Nat} {a : Act} {w : World} (hm : P.follows .mixedOrders = true) (h : Until P .any ops Q S st ops.size (Array.replicate ops.size false) a w.drew) : (Code.region id ops true).wp P Q a w :=
  wp_region_any hm (Until.any _ _ _ _ h)
end
end Go.Proofs.YtinijohmdljieaaGreatDoor
