/- package guard: Read, with what it defers. -/
import Derived.Defers
import Derived.Recover
import Derived.Test.YtkmgbkcpjlilpaaDoorGDeep
namespace Go.Proofs.YtkmgbkcpjlilpaaDoor
open Go.RowKit

theorem assert_fault (W : World) (v : Value) : (Instr.typeAssert (.iface 37 v) 20 37 true).run Tryd.prog W = .ok (.tuple #[v, .bool true]) W := by kernel_rfl
/-- what is deferred, where a fault is on its way -/
def caught (gb ab eb : Nat) (a : Int) (w : World) : World := (((((w.setCell ⟨gb, 0, none⟩ (.int .u8 0)).setCell ⟨gb, 1, none⟩ (.int .i64 0)).setCell ⟨gb, 2, none⟩ (.string ⟨#[]⟩)).setCell ⟨gb, 3, none⟩ (.slice none 0 0)).setCell ⟨ab, 0, none⟩ (.int .i64 a)).setCell ⟨eb, 0, none⟩ (.int .i64 170)
set_option maxHeartbeats 2000000 in
set_option maxRecDepth 100000 in
theorem catch_fault (gb ab eb : Nat) (a : Int) (d0 d1 d2 d3 : Value) (older : List PanicEntry) (w : World) (hg : Arr w gb 24 [d0, d1, d2, d3]) (ha : Arr w ab 3 [.int .i64 0]) (he : Arr w eb 25 [.int .i64 0]) (h1 : gb ≠ ab) (h2 : gb ≠ eb) (h3 : ab ≠ eb) :
    CallsD Tryd.prog 12 #[.pointer (some ⟨gb, 0, none⟩), .pointer (some ⟨ab, 0, none⟩), .pointer (some ⟨eb, 0, none⟩)] (.panicking ({ v := .iface 37 (.int .i64 a), recovered := false } :: older)) w fun e u' w' =>
      e = .returned (.tuple #[]) ∧ u' = .panicking ({ v := .iface 37 (.int .i64 a), recovered := true } :: older) ∧ w' = caught gb ab eb a w := by
  refine callsD_of_wpS Tryd.func12 rfl fun c₀ cs hu => ?_
  apply wpS_seq
  apply wpS_region
  simp [wpOpsS, go_sem, recoverD, hu, Tryd.ntmps12, Exit.thenS]
  refine wpS_of_wp ?_
  rw [show (#[Value.pointer (some ⟨gb, 0, none⟩), Value.pointer (some ⟨ab, 0, none⟩), Value.pointer (some ⟨eb, 0, none⟩)] ++ (Array.replicate 11 undef).setIfInBounds 3 (Value.iface 37 (.int .i64 a))) = #[Value.pointer (some ⟨gb, 0, none⟩), Value.pointer (some ⟨ab, 0, none⟩), Value.pointer (some ⟨eb, 0, none⟩), undef, undef, undef, Value.iface 37 (.int .i64 a), undef, undef, undef, undef, undef, undef, undef] from rfl]
  have hta := assert_fault
  have x0 := hg.cell (j := 0) (by simp)
  have x1 := hg.cell (j := 1) (by simp)
  have x2 := hg.cell (j := 2) (by simp)
  have x3 := hg.cell (j := 3) (by simp)
  have y0 := ha.cell (j := 0) (by simp)
  have z0 := he.cell (j := 0) (by simp)
  have f0 := hg.frozen 0
  have f1 := hg.frozen 1
  have f2 := hg.frozen 2
  have f3 := hg.frozen 3
  have g0 := ha.frozen 0
  have e0 := he.frozen 0
  simp only [List.getElem_cons_zero, List.getElem_cons_succ] at x0 x1 x2 x3 y0 z0
  clear hg ha he
  go_wp2
  exact ⟨rfl, _, rfl, .tuple #[], by simp [results, Tryd.results12], rfl, rfl, rfl⟩
set_option maxHeartbeats 2000000 in
set_option maxRecDepth 100000 in
theorem catch_idle (va vb vc : Value) (w : World) :
    CallsD Tryd.prog 12 #[va, vb, vc] .returning w fun e u' w' => e = .returned (.tuple #[]) ∧ u' = .returning ∧ w' = w := by
  refine callsD_of_wpS Tryd.func12 rfl fun c₀ cs hu => ?_
  apply wpS_seq
  apply wpS_region
  simp [wpOpsS, go_sem, recoverD, hu, Tryd.ntmps12, Exit.thenS]
  refine wpS_of_wp ?_
  rw [show (#[va, vb, vc] ++ (Array.replicate 11 undef).setIfInBounds 3 Value.nilIface) = #[va, vb, vc, undef, undef, undef, Value.nilIface, undef, undef, undef, undef, undef, undef, undef] from rfl]
  go_wp2
  refine ⟨rfl, .returning, ?_, .tuple #[], by simp [results, Tryd.results12], rfl, rfl, rfl⟩
  rw [← hu]

abbrev errT : Nat := 3
/-- how Read ends -/
def ReadEnd (s : ByteArray) (w : World) (e : Ending) (w' : World) : Prop :=
  Below w.heap.size w w' ∧
    if 16384 < s.size then e = .returned (.tuple #[.agg zeroG.toArray, .int .i64 0, .int .i64 3])
    else ∃ fu r, readG s fu = some r ∧ match r with
      | .ok g => ∃ cs : List Value, e = .returned (.tuple #[.agg cs.toArray, .int .i64 0, .int .i64 0]) ∧ GIs (fun k => k < w.heap.size) w' g cs
      | .error (a, c) => e = .returned (.tuple #[.agg zeroG.toArray, .int .i64 (a : Int), .int .i64 c])

theorem read_results {W : World} {tmps : Array Value} {gb ab eb : Nat} {d0 d1 d2 d3 : Value} {n c : Int} (h2 : tmps.getD 2 undef = .pointer (some ⟨gb, 0, none⟩)) (h3 : tmps.getD 3 undef = .pointer (some ⟨ab, 0, none⟩)) (h4 : tmps.getD 4 undef = .pointer (some ⟨eb, 0, none⟩))
    (hg : Arr W gb 24 [d0, d1, d2, d3]) (ha : Arr W ab 3 [.int .i64 n]) (he : Arr W eb 25 [.int .i64 c]) :
    (results Tryd.f5 tmps).run Tryd.prog W = .ok (.tuple #[.agg #[d0, d1, d2, d3], .int .i64 n, .int .i64 c]) W := by
  have h2' : tmps[2]?.getD undef = .pointer (some ⟨gb, 0, none⟩) := by simpa using h2
  have h3' : tmps[3]?.getD undef = .pointer (some ⟨ab, 0, none⟩) := by simpa using h3
  have h4' : tmps[4]?.getD undef = .pointer (some ⟨eb, 0, none⟩) := by simpa using h4
  have x0 := hg.cell (j := 0) (by simp)
  have x1 := hg.cell (j := 1) (by simp)
  have x2 := hg.cell (j := 2) (by simp)
  have x3 := hg.cell (j := 3) (by simp)
  have y0 := ha.cell (j := 0) (by simp)
  have z0 := he.cell (j := 0) (by simp)
  simp only [List.getElem_cons_zero, List.getElem_cons_succ] at x0 x1 x2 x3 y0 z0
  simp [results, Tryd.results5, h2', h3', h4', go_sem, x0, x1, x2, x3, y0, z0]
theorem leave_ok {tmps : Array Value} {v : Value} {W : World} {R : Ending → World → Prop} {c0 c1 c2 : Value} (hres : (results Tryd.f5 tmps).run Tryd.prog W = .ok v W) (hR : R (.returned v) W) :
    Leaves Tryd.prog Tryd.f5 tmps R [{ target := .fn (.func 12) #[c0, c1, c2], args := #[] }] .returning W := by
  refine leaves_cons (f := 12) (args := #[c0, c1, c2]) (by simp) (by simp [go_sem]) ?_
  refine (catch_idle _ _ _ _).mono ?_
  rintro e u' w'' ⟨rfl, rfl, rfl⟩
  exact ⟨v, hres, hR⟩
theorem caught_arr {gb ab eb : Nat} {a : Int} {d0 d1 d2 d3 : Value} {W : World} (hg : Arr W gb 24 [d0, d1, d2, d3]) (ha : Arr W ab 3 [.int .i64 0]) (he : Arr W eb 25 [.int .i64 0]) (h1 : gb ≠ ab) (h2 : gb ≠ eb) (h3 : ab ≠ eb) :
    Arr (caught gb ab eb a W) gb 24 zeroG ∧ Arr (caught gb ab eb a W) ab 3 [.int .i64 a] ∧ Arr (caught gb ab eb a W) eb 25 [.int .i64 170] := by
  have fa : ∀ {w : World} {g : Nat} {t : TypeId} {vs : List Value} (j : Nat) (v : Value), g ≠ gb → Arr w g t vs → Arr (w.setCell ⟨gb, j, none⟩ v) g t vs := fun {w g t vs} j v hne h => h.far (a := ⟨gb, j, none⟩) hne v
  refine ⟨?_, ?_, ?_⟩
  · exact Arr.far (a := ⟨eb, 0, none⟩) (Arr.far (a := ⟨ab, 0, none⟩) ((((hg.set 0 _).set 1 _).set 2 _).set 3 _) h1 _) h2 _
  · exact Arr.far (a := ⟨eb, 0, none⟩) ((fa 3 _ (Ne.symm h1) (fa 2 _ (Ne.symm h1) (fa 1 _ (Ne.symm h1) (fa 0 _ (Ne.symm h1) ha)))).set 0 _) h3 _
  · exact (Arr.far (a := ⟨ab, 0, none⟩) (fa 3 _ (Ne.symm h2) (fa 2 _ (Ne.symm h2) (fa 1 _ (Ne.symm h2) (fa 0 _ (Ne.symm h2) he)))) (Ne.symm h3) _).set 0 _
/-- what Read writes into its results -/
def laid6 (gb ab eb : Nat) (d0 d1 d2 d3 : Value) (u v : Int) (w : World) : World := (((((w.setCell ⟨gb, 0, none⟩ d0).setCell ⟨gb, 1, none⟩ d1).setCell ⟨gb, 2, none⟩ d2).setCell ⟨gb, 3, none⟩ d3).setCell ⟨ab, 0, none⟩ (.int .i64 u)).setCell ⟨eb, 0, none⟩ (.int .i64 v)
theorem laid6_arr {gb ab eb : Nat} {u v p q : Int} {c0 c1 c2 c3 d0 d1 d2 d3 : Value} {W : World} (hg : Arr W gb 24 [c0, c1, c2, c3]) (ha : Arr W ab 3 [.int .i64 p]) (he : Arr W eb 25 [.int .i64 q]) (h1 : gb ≠ ab) (h2 : gb ≠ eb) (h3 : ab ≠ eb) :
    Arr (laid6 gb ab eb d0 d1 d2 d3 u v W) gb 24 [d0, d1, d2, d3] ∧ Arr (laid6 gb ab eb d0 d1 d2 d3 u v W) ab 3 [.int .i64 u] ∧ Arr (laid6 gb ab eb d0 d1 d2 d3 u v W) eb 25 [.int .i64 v] := by
  have fa : ∀ {w : World} {g : Nat} {t : TypeId} {vs : List Value} (j : Nat) (v : Value), g ≠ gb → Arr w g t vs → Arr (w.setCell ⟨gb, j, none⟩ v) g t vs := fun {w g t vs} j v hne h => h.far (a := ⟨gb, j, none⟩) hne v
  refine ⟨?_, ?_, ?_⟩
  · exact Arr.far (a := ⟨eb, 0, none⟩) (Arr.far (a := ⟨ab, 0, none⟩) ((((hg.set 0 _).set 1 _).set 2 _).set 3 _) h1 _) h2 _
  · exact Arr.far (a := ⟨eb, 0, none⟩) ((fa 3 _ (Ne.symm h1) (fa 2 _ (Ne.symm h1) (fa 1 _ (Ne.symm h1) (fa 0 _ (Ne.symm h1) ha)))).set 0 _) h3 _
  · exact (Arr.far (a := ⟨ab, 0, none⟩) (fa 3 _ (Ne.symm h2) (fa 2 _ (Ne.symm h2) (fa 1 _ (Ne.symm h2) (fa 0 _ (Ne.symm h2) he)))) (Ne.symm h3) _).set 0 _
theorem laid6_below {w W : World} {gb ab eb : Nat} {u v : Int} {d0 d1 d2 d3 : Value} (h : Below w.heap.size w W) (h1 : w.heap.size ≤ gb) (h2 : w.heap.size ≤ ab) (h3 : w.heap.size ≤ eb) : Below w.heap.size w (laid6 gb ab eb d0 d1 d2 d3 u v W) :=
  (((((h.setCell (p := ⟨gb, 0, none⟩) h1 _).setCell (p := ⟨gb, 1, none⟩) h1 _).setCell (p := ⟨gb, 2, none⟩) h1 _).setCell (p := ⟨gb, 3, none⟩) h1 _).setCell (p := ⟨ab, 0, none⟩) h2 _).setCell (p := ⟨eb, 0, none⟩) h3 _
theorem laid6_gis {X : Nat → Prop} {W : World} {gb ab eb : Nat} {u v : Int} {d0 d1 d2 d3 : Value} {t : GT} {cs : List Value} (h : GIs X W t cs) (h1 : X gb) (h2 : X ab) (h3 : X eb) : GIs X (laid6 gb ab eb d0 d1 d2 d3 u v W) t cs :=
  GIs.setCell (p := ⟨eb, 0, none⟩) h3 _ (GIs.setCell (p := ⟨ab, 0, none⟩) h2 _ (GIs.setCell (p := ⟨gb, 3, none⟩) h1 _ (GIs.setCell (p := ⟨gb, 2, none⟩) h1 _ (GIs.setCell (p := ⟨gb, 1, none⟩) h1 _ (GIs.setCell (p := ⟨gb, 0, none⟩) h1 _ h)))))
theorem caught_below {w W : World} {gb ab eb : Nat} (a : Int) (h : Below w.heap.size w W) (h1 : w.heap.size ≤ gb) (h2 : w.heap.size ≤ ab) (h3 : w.heap.size ≤ eb) : Below w.heap.size w (caught gb ab eb a W) :=
  (((((h.setCell (p := ⟨gb, 0, none⟩) h1 _).setCell (p := ⟨gb, 1, none⟩) h1 _).setCell (p := ⟨gb, 2, none⟩) h1 _).setCell (p := ⟨gb, 3, none⟩) h1 _).setCell (p := ⟨ab, 0, none⟩) h2 _).setCell (p := ⟨eb, 0, none⟩) h3 _
theorem leave_fault {tmps : Array Value} {W : World} {R : Ending → World → Prop} {gb ab eb : Nat} {a : Nat} {d0 d1 d2 d3 : Value} (ht2 : tmps.getD 2 undef = .pointer (some ⟨gb, 0, none⟩)) (ht3 : tmps.getD 3 undef = .pointer (some ⟨ab, 0, none⟩)) (ht4 : tmps.getD 4 undef = .pointer (some ⟨eb, 0, none⟩))
    (hg : Arr W gb 24 [d0, d1, d2, d3]) (ha : Arr W ab 3 [.int .i64 0]) (he : Arr W eb 25 [.int .i64 0]) (h1 : gb ≠ ab) (h2 : gb ≠ eb) (h3 : ab ≠ eb)
    (hR : R (.returned (.tuple #[.agg zeroG.toArray, .int .i64 (a : Int), .int .i64 170])) (caught gb ab eb a W)) :
    Leaves Tryd.prog Tryd.f5 tmps R [{ target := .fn (.func 12) #[.pointer (some ⟨gb, 0, none⟩), .pointer (some ⟨ab, 0, none⟩), .pointer (some ⟨eb, 0, none⟩)], args := #[] }] (.panicking [{ v := .iface 37 (.int .i64 (a : Int)), recovered := false }]) W := by
  refine leaves_cons (f := 12) (args := #[.pointer (some ⟨gb, 0, none⟩), .pointer (some ⟨ab, 0, none⟩), .pointer (some ⟨eb, 0, none⟩)]) (by simp) (by simp [go_sem]) ?_
  refine (catch_fault gb ab eb a d0 d1 d2 d3 [] W hg ha he h1 h2 h3).mono ?_
  rintro e u' w'' ⟨rfl, rfl, rfl⟩
  obtain ⟨k1, k2, k3⟩ := caught_arr (a := a) hg ha he h1 h2 h3
  exact ⟨_, read_results ht2 ht3 ht4 k1 k2 k3, hR⟩

set_option maxHeartbeats 8000000 in
set_option maxRecDepth 100000 in
theorem Read_walk (s : ByteArray) (w : World) (hs : s.size ≤ 17000) (hv : ∃ t p, w.cell? ⟨2, 0, none⟩ = some (.iface t p)) :
    Calls Tryd.prog 5 #[.string s] w (ReadEnd s w) := by
  have hmf : ∀ (fn : Fn) (first cap : Array Value) (w : World), (Instr.makeFunc fn first cap).run Tryd.prog w = .ok (.func fn first cap) w := fun _ _ _ _ => rfl
  by_cases hbig : 16384 < s.size
  · have i1 : (16384 : Int) < (s.size : Int) := by omega
    have HE := Lib.hid hbig
    clear hbig
    go_enter_defers Tryd.func5, Tryd.ntmps5
    go_wp2
    have hA2 : Arr (((w.alloc (.cells #[.int .u8 0, .int .i64 0, .string ⟨#[]⟩, .slice none 0 0] 24)).alloc (.cells #[.int .i64 0] 3)).alloc (.cells #[.int .i64 3] 25)) w.heap.size 24 zeroG := ((Arr.new w zeroG 24).alloc _).alloc _
    have hA3 : Arr (((w.alloc (.cells #[.int .u8 0, .int .i64 0, .string ⟨#[]⟩, .slice none 0 0] 24)).alloc (.cells #[.int .i64 0] 3)).alloc (.cells #[.int .i64 3] 25)) (w.heap.size + 1) 3 [.int .i64 0] := Arr.alloc ⟨alloc_at (by rw [size_alloc])⟩ _
    have hA4 : Arr (((w.alloc (.cells #[.int .u8 0, .int .i64 0, .string ⟨#[]⟩, .slice none 0 0] 24)).alloc (.cells #[.int .i64 0] 3)).alloc (.cells #[.int .i64 3] 25)) (w.heap.size + 1 + 1) 25 [.int .i64 3] := ⟨alloc_at (by rw [size_alloc, size_alloc])⟩
    refine ⟨_, read_results (gb := w.heap.size) (ab := w.heap.size + 1) (eb := w.heap.size + 1 + 1) rfl rfl rfl hA2 hA3 hA4, ?_, ?_⟩
    · exact (((Below.refl w.heap.size w).alloc (Nat.le_refl _) _).alloc (by rw [size_alloc]; omega) _).alloc (by rw [size_alloc, size_alloc]; omega) _
    · rw [if_pos HE.out]
  · have i1 : ¬ (16384 : Int) < (s.size : Int) := by omega
    obtain ⟨w1, hw1⟩ : ∃ w1, ((w.alloc (.cells #[.int .u8 0, .int .i64 0, .string ⟨#[]⟩, .slice none 0 0] 24)).alloc (.cells #[.int .i64 0] 3)).alloc (.cells #[.int .i64 0] 25) = w1 := ⟨_, rfl⟩
    obtain ⟨w2, hw2⟩ : ∃ w2, w1.alloc (.cells #[.string s, .int .i64 0, .int .i64 0, .string ⟨#[]⟩] 42) = w2 := ⟨_, rfl⟩
    have hz1 : w1.heap.size = w.heap.size + 1 + 1 + 1 := by rw [← hw1, size_alloc, size_alloc, size_alloc]
    have hg1 : Arr w1 w.heap.size 24 zeroG := hw1 ▸ ((Arr.new w zeroG 24).alloc _).alloc _
    have ha1 : Arr w1 (w.heap.size + 1) 3 [.int .i64 0] := hw1 ▸ Arr.alloc ⟨alloc_at (by rw [size_alloc])⟩ _
    have he1 : Arr w1 (w.heap.size + 1 + 1) 25 [.int .i64 0] := hw1 ▸ ⟨alloc_at (by rw [size_alloc, size_alloc])⟩
    have hb1 : Below w.heap.size w w1 := hw1 ▸ (((Below.refl w.heap.size w).alloc (Nat.le_refl _) _).alloc (by rw [size_alloc]; omega) _).alloc (by rw [size_alloc, size_alloc]; omega) _
    have hb2 : Below w.heap.size w w2 := hw2 ▸ hb1.alloc hb1.size _
    have HGB := Lib.hid (show Arr w2 w.heap.size 24 zeroG from hw2 ▸ hg1.alloc _)
    have HAB := Lib.hid (show Arr w2 (w.heap.size + 1) 3 [.int .i64 0] from hw2 ▸ ha1.alloc _)
    have HEB := Lib.hid (show Arr w2 (w.heap.size + 1 + 1) 25 [.int .i64 0] from hw2 ▸ he1.alloc _)
    have hR2 : RdIs (w.heap.size + 1 + 1 + 1) w2 s ⟨0, 0, ⟨#[]⟩⟩ := hw2 ▸ ⟨alloc_at hz1.symm⟩
    have hv2 : GW (w.heap.size + 1 + 1 + 1) w2 := by
      obtain ⟨t, p, hc⟩ := hv
      have hl := World.block_lt_of_cell? w _ hc
      exact ⟨⟨t, p, (World.cell?_of_block (hb2.block _ hl)).trans hc⟩, by simp only at hl; omega⟩
    have HB2 := Lib.hid hb2
    have HV2 := Lib.hid hv2
    have HBIG := Lib.hid hbig
    obtain ⟨X, hX⟩ : ∃ X, stepB s 0 = X := ⟨_, rfl⟩
    have hST := step_walk (w.heap.size + 1 + 1 + 1) s ⟨0, 0, ⟨#[]⟩⟩ w2 hs (Nat.zero_le _) hR2 hv2
    rw [hX] at hST
    have HX := Lib.hid hX
    have HST := Lib.hid hST
    have HW1 := Lib.hid hw1
    have HW2 := Lib.hid hw2
    have HZ1 := Lib.hid hz1
    clear hg1 ha1 he1 hb1 hb2 hR2 hv2 hbig hX hST hv hw2 hz1
    go_enter_defers Tryd.func5, Tryd.ntmps5
    go_upto_region 5 with fail
    rw [HW2.out, HZ1.out]
    clear hw1
    go_wp2_with fail
    refine HST.out.mono ?_
    rintro e w3 ⟨hk3, h3⟩
    have hkb : ∀ (W : World), KeepR (w.heap.size + 1 + 1 + 1) w2 W → Below w.heap.size w W := fun W hk => HB2.out.trans (hk.below (B := w.heap.size) (by omega) HB2.out.size)
    have hkg : ∀ (W : World), KeepR (w.heap.size + 1 + 1 + 1) w2 W → Arr W w.heap.size 24 zeroG ∧ Arr W (w.heap.size + 1) 3 [.int .i64 0] ∧ Arr W (w.heap.size + 1 + 1) 25 [.int .i64 0] := fun W hk => ⟨HGB.out.keepR hk (by omega), HAB.out.keepR hk (by omega), HEB.out.keepR hk (by omega)⟩
    have HKB := Lib.hid hkb
    have HKG := Lib.hid hkg
    have HK3 := Lib.hid hk3
    clear HST hk3 hkb hkg
    cases X with
    | error a =>
      simp only at h3
      subst h3
      obtain ⟨q1, q2, q3⟩ := HKG.out _ HK3.out
      refine leave_fault (gb := w.heap.size) (ab := w.heap.size + 1) (eb := w.heap.size + 1 + 1) rfl rfl rfl q1 q2 q3 (by omega) (by omega) (by omega) ⟨caught_below _ (HKB.out _ HK3.out) (Nat.le_refl _) (by omega) (by omega), ?_⟩
      rw [if_neg HBIG.out]
      exact ⟨0, .error (a, 170), by rw [readG, HX.out], rfl⟩
    | ok st3 =>
      obtain ⟨rfl, hr3⟩ := h3
      obtain ⟨hg3, -⟩ := step_gs (Nat.zero_le _) HX.out
      have hGD := (all_sub (R := w.heap.size + 1 + 1 + 1) hs (s.size + 1)).1 st3 w3 (by omega) hg3 hr3 (HV2.out.keep HK3.out)
      have HGD := Lib.hid hGD
      have HG3 := Lib.hid hg3
      have HR3 := Lib.hid (Arr.lt hr3)
      clear hg3 hr3 hGD
      go_wp2_with fail
      refine HGD.out.mono ?_
      rintro e w4 ⟨hk4, fu, r4, hr4, h4⟩
      replace hr4 : pars s fu .guard st3 = some r4 := hr4
      have HK4 := Lib.hid (HK3.out.trans hk4)
      clear HGD
      rcases r4 with a | gs
      · simp only at h4
        subst h4
        obtain ⟨q1, q2, q3⟩ := HKG.out _ HK4.out
        refine leave_fault (gb := w.heap.size) (ab := w.heap.size + 1) (eb := w.heap.size + 1 + 1) rfl rfl rfl q1 q2 q3 (by omega) (by omega) (by omega) ⟨caught_below _ (HKB.out _ HK4.out) (Nat.le_refl _) (by omega) (by omega), ?_⟩
        rw [if_neg HBIG.out]
        exact ⟨fu, .error (a, 170), by rw [readG, HX.out]; simp only; rw [hr4], rfl⟩
      obtain ⟨g4, st4⟩ := gs
      obtain ⟨⟨cs4, rfl, hgi4⟩, hr5, hg5, -⟩ := h4
      have hdp := (pars_deep s fu .guard st3 g4 st4 HG3.out hr4).2
      have hz4 : w.heap.size + 1 + 1 + 1 < w4.heap.size := by have := HR3.out; have := hk4.size; omega
      obtain ⟨q1, q2, q3⟩ := HKG.out _ HK4.out
      have hX4 : GIs (fun k => k < w.heap.size + 1 + 1 + 1) w4 g4 cs4 := hgi4.mono fun k hk (hy : k < w.heap.size + 1 + 1 + 1) => show k < w3.heap.size by have := HR3.out; omega
      obtain ⟨k4, n4, s4, a4, l4, c4, rfl⟩ := hX4.four
      have x0 := q1.cell (j := 0) (by simp)
      have x1 := q1.cell (j := 1) (by simp)
      have x2 := q1.cell (j := 2) (by simp)
      have x3 := q1.cell (j := 3) (by simp)
      have f0 := q1.frozen 0
      have f1 := q1.frozen 1
      have f2 := q1.frozen 2
      have f3 := q1.frozen 3
      simp only [List.getElem_cons_zero, List.getElem_cons_succ] at x0 x1 x2 x3
      have fa : ∀ {W : World} {g : Nat} {t : TypeId} {vs : List Value} (j : Nat) (v : Value), g ≠ w.heap.size → Arr W g t vs → Arr (W.setCell ⟨w.heap.size, j, none⟩ v) g t vs := fun {W g t vs} j v hne h => h.far (a := ⟨w.heap.size, j, none⟩) hne v
      obtain ⟨w5, hw5⟩ : ∃ w5, (((w4.setCell ⟨w.heap.size, 0, none⟩ (.int .u8 k4)).setCell ⟨w.heap.size, 1, none⟩ (.int .i64 n4)).setCell ⟨w.heap.size, 2, none⟩ (.string s4)).setCell ⟨w.heap.size, 3, none⟩ (.slice a4 l4 c4) = w5 := ⟨_, rfl⟩
      have HG5 : Arr w5 w.heap.size 24 [.int .u8 k4, .int .i64 n4, .string s4, .slice a4 l4 c4] := hw5 ▸ (((q1.set 0 _).set 1 _).set 2 _).set 3 _
      have HA5 : Arr w5 (w.heap.size + 1) 3 [.int .i64 0] := hw5 ▸ fa 3 _ (by omega) (fa 2 _ (by omega) (fa 1 _ (by omega) (fa 0 _ (by omega) q2)))
      have HE5 : Arr w5 (w.heap.size + 1 + 1) 25 [.int .i64 0] := hw5 ▸ fa 3 _ (by omega) (fa 2 _ (by omega) (fa 1 _ (by omega) (fa 0 _ (by omega) q3)))
      have HR5 : RdIs (w.heap.size + 1 + 1 + 1) w5 s st4 := hw5 ▸ fa 3 _ (by omega) (fa 2 _ (by omega) (fa 1 _ (by omega) (fa 0 _ (by omega) hr5)))
      have HB5 : Below w.heap.size w w5 := hw5 ▸ ((((HKB.out _ HK4.out).setCell (p := ⟨w.heap.size, 0, none⟩) (Nat.le_refl _) _).setCell (p := ⟨w.heap.size, 1, none⟩) (Nat.le_refl _) _).setCell (p := ⟨w.heap.size, 2, none⟩) (Nat.le_refl _) _).setCell (p := ⟨w.heap.size, 3, none⟩) (Nat.le_refl _) _
      have HX5 : GIs (fun k => k < w.heap.size + 1 + 1 + 1) w5 g4 [.int .u8 k4, .int .i64 n4, .string s4, .slice a4 l4 c4] := hw5 ▸ GIs.setCell (p := ⟨w.heap.size, 3, none⟩) (show w.heap.size < w.heap.size + 1 + 1 + 1 by omega) _ (GIs.setCell (p := ⟨w.heap.size, 2, none⟩) (show w.heap.size < w.heap.size + 1 + 1 + 1 by omega) _ (GIs.setCell (p := ⟨w.heap.size, 1, none⟩) (show w.heap.size < w.heap.size + 1 + 1 + 1 by omega) _ (GIs.setCell (p := ⟨w.heap.size, 0, none⟩) (show w.heap.size < w.heap.size + 1 + 1 + 1 by omega) _ hX4)))
      have hdle : g4.deep ≤ 20000 := by have := hg5.le; have := hg5.pos; omega
      have HDP := Lib.hid hdle
      have HP4 := Lib.hid hr4
      have HQ5 := Lib.hid HG5
      have HQA := Lib.hid HA5
      have HQE := Lib.hid HE5
      have HQR := Lib.hid HR5
      have HQB := Lib.hid HB5
      have HQX := Lib.hid HX5
      have HW5 := Lib.hid hw5
      have HGS := Lib.hid hg5
      clear hdle hr4 HG5 HA5 HE5 HR5 HB5 HX5 hw5 hgi4 hX4 hr5 hg5 hdp hk4 q1 q2 q3 fa
      go_upto_region 7 with fail
      rw [HW5.out]
      clear x0 x1 x2 x3 f0 f1 f2 f3
      obtain ⟨y0, y1, y2, y3⟩ := rd_cells HQR.out
      have z0 := HQ5.out.cell (j := 0) (by simp)
      have z1 := HQ5.out.cell (j := 1) (by simp)
      have z2 := HQ5.out.cell (j := 2) (by simp)
      have z3 := HQ5.out.cell (j := 3) (by simp)
      simp only [List.getElem_cons_zero, List.getElem_cons_succ] at z0 z1 z2 z3
      by_cases hn0 : st4.now.size = 0
      · have e0' : st4.now.toList = [] := by rw [Go.ByteArray.toList_eq]; exact List.eq_nil_of_length_eq_zero hn0
        have e0 : (st4.now.toList == []) = true := by rw [e0']; rfl
        have HN0 := Lib.hid hn0
        have HDW := Lib.hid (deep_walk 20000 g4 _ w5 HDP.out (by omega) HQX.out)
        clear hn0
        go_wp2_with fail
        refine HDW.out.mono ?_
        rintro e w6 ⟨rfl, hb6⟩
        have HB6 := Lib.hid hb6
        have HG6 := Lib.hid (HQ5.out.below hb6 HQ5.out.lt)
        have HA6 := Lib.hid (HQA.out.below hb6 HQA.out.lt)
        have HE6 := Lib.hid (HQE.out.below hb6 HQE.out.lt)
        have HX6 := Lib.hid (HQX.out.below hb6)
        have HBW6 := Lib.hid (HQB.out.trans (hb6.mono HQB.out.size))
        clear hb6 HDW z0 z1 z2 z3 y0 y1 y2 y3
        have z0 := HG6.out.cell (j := 0) (by simp)
        have z1 := HG6.out.cell (j := 1) (by simp)
        have z2 := HG6.out.cell (j := 2) (by simp)
        have z3 := HG6.out.cell (j := 3) (by simp)
        have za := HA6.out.cell (j := 0) (by simp)
        have ze := HE6.out.cell (j := 0) (by simp)
        have f0 := HG6.out.frozen 0
        have f1 := HG6.out.frozen 1
        have f2 := HG6.out.frozen 2
        have f3 := HG6.out.frozen 3
        have fa := HA6.out.frozen 0
        have fe := HE6.out.frozen 0
        simp only [List.getElem_cons_zero, List.getElem_cons_succ] at z0 z1 z2 z3 za ze
        by_cases h32 : 32 < g4.deep
        · have i2 : (32 : Int) < (g4.deep : Int) := by omega
          have H32 := Lib.hid h32
          clear h32
          go_wp2_with fail
          obtain ⟨k1, k2, k3⟩ := laid6_arr (d0 := .int .u8 0) (d1 := .int .i64 0) (d2 := .string ⟨#[]⟩) (d3 := .slice none 0 0) (u := 0) (v := 161) HG6.out HA6.out HE6.out (by omega) (by omega) (by omega)
          refine leave_ok (read_results rfl rfl rfl k1 k2 k3) ⟨laid6_below HBW6.out (Nat.le_refl _) (by omega) (by omega), ?_⟩
          rw [if_neg HBIG.out]
          exact ⟨fu, .error (0, 161), by rw [readG, HX.out]; simp only; rw [HP4.out]; simp only; rw [if_neg (by rw [HN0.out]; decide), if_pos H32.out], rfl⟩
        · have i2 : ¬ (32 : Int) < (g4.deep : Int) := by omega
          have H32 := Lib.hid h32
          clear h32
          go_wp2_with fail
          obtain ⟨k1, k2, k3⟩ := laid6_arr (d0 := .int .u8 k4) (d1 := .int .i64 n4) (d2 := .string s4) (d3 := .slice a4 l4 c4) (u := 0) (v := 0) HG6.out HA6.out HE6.out (by omega) (by omega) (by omega)
          refine leave_ok (read_results rfl rfl rfl k1 k2 k3) ⟨laid6_below HBW6.out (Nat.le_refl _) (by omega) (by omega), ?_⟩
          rw [if_neg HBIG.out]
          exact ⟨fu, .ok g4, by rw [readG, HX.out]; simp only; rw [HP4.out]; simp only; rw [if_neg (by rw [HN0.out]; decide), if_neg H32.out], _, rfl, (laid6_gis HX6.out (show w.heap.size < w.heap.size + 1 + 1 + 1 by omega) (show w.heap.size + 1 < w.heap.size + 1 + 1 + 1 by omega) (show w.heap.size + 1 + 1 < w.heap.size + 1 + 1 + 1 by omega)).mono fun k hk (hy : k < w.heap.size) => show k < w.heap.size + 1 + 1 + 1 by omega⟩
      · have e0' : ¬ st4.now.toList = [] := by rw [Go.ByteArray.toList_eq]; intro h; exact hn0 (by rw [← ba_len, h]; rfl)
        have e0 : (st4.now.toList == []) = false := by simpa using e0'
        have HN0 := Lib.hid hn0
        clear hn0
        go_wp2_with fail
        refine leave_fault (gb := w.heap.size) (ab := w.heap.size + 1) (eb := w.heap.size + 1 + 1) rfl rfl rfl HQ5.out HQA.out HQE.out (by omega) (by omega) (by omega) ⟨caught_below _ HQB.out (Nat.le_refl _) (by omega) (by omega), ?_⟩
        rw [if_neg HBIG.out]
        exact ⟨fu, .error (st4.pos, 170), by rw [readG, HX.out]; simp only; rw [HP4.out]; simp only; rw [if_pos HN0.out], rfl⟩
end Go.Proofs.YtkmgbkcpjlilpaaDoor
