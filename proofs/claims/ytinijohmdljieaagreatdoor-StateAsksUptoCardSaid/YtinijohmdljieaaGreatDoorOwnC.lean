/- package json: Rows; package state: own (a case into memory of its own). -/
import Derived.Test.YtinijohmdljieaaGreatDoorJOwn
import Derived.Test.YtinijohmdljieaaGreatDoorH12
namespace Go.Proofs.YtinijohmdljieaaGreatDoor
open Go.RowKit

theorem ret_rows {g : Nat} {W : World} {a : Act} {u0 u1 u2 u3 u4 u5 : Value} {R : Ending → World → Prop} (hp : a.tmps.getD 2 undef = .pointer (some ⟨g, 0, none⟩)) (hd : a.defers = [])
    (h0 : W.cell? ⟨g, 0, none⟩ = some u0) (h1 : W.cell? ⟨g, 1, none⟩ = some u1) (h2 : W.cell? ⟨g, 2, none⟩ = some u2) (h3 : W.cell? ⟨g, 3, none⟩ = some u3) (h4 : W.cell? ⟨g, 4, none⟩ = some u4) (h5 : W.cell? ⟨g, 5, none⟩ = some u5)
    (hR : R (.returned (.agg #[u0, u1, u2, u3, u4, u5])) W) : bodyPost Tryz.prog Tryz.f94 R .ret a W := by
  refine bodyPost_ret ?_ hd hR
  have hp' : a.tmps[2]?.getD undef = .pointer (some ⟨g, 0, none⟩) := by simpa using hp
  simp [results, Tryz.results94, hp', go_sem, h0, h1, h2, h3, h4, h5]
theorem B1.fp {E : TypeId} {k : Nat} {w W : World} {x : List Value} (h : B1 E k w W x) (j : Nat) : W.frozen? ⟨w.heap.size, j, none⟩ = false := h.p.frozenAt j
theorem B1.setP {E : TypeId} {k : Nat} {w W : World} {x : List Value} (h : B1 E k w W x) (j : Nat) (v : Value) : B1 E k w (W.setCell ⟨w.heap.size, j, none⟩ v) (x.set j v) :=
  ⟨h.p.set v, h.below.setCell (p := ⟨w.heap.size, j, none⟩) (Nat.le_refl _) v⟩
/-- a list of values, made new: how it ends -/
def RowsEnd (es : List (List D)) (w : World) (e : Ending) (w' : World) : Prop := ∃ va vc ya yc, e = .returned (.agg #[.int .u8 5, .bool false, .int .i64 0, .string ⟨#[]⟩, .slice ya 0 yc, .slice va es.length vc]) ∧ Mem true (From w.heap.size) w' (.list 6 es) (.slice va es.length vc) ∧ Below w.heap.size w w'
set_option maxHeartbeats 4000000 in
set_option maxRecDepth 100000 in
theorem rowsM (es : List (List D)) (a : Option Addr) (c : Nat) (w : World) (hl : es.length ≤ 1048576) (hj : ∀ e ∈ es, IsJson e) (h : Mem false (From 0) w (.list 6 es) (.slice a es.length c)) : Calls Tryz.prog 94 #[.slice a es.length c] w (RowsEnd es w) := by
  have HB0 := Lib.hid (B1.start w 77 6 #[.int .u8 0, .bool false, .int .i64 0, .string ⟨#[]⟩, .slice none 0 0, .slice none 0 0] rfl)
  have HJ := Lib.hid (IsJson.mk 5 false 0 ⟨#[]⟩ [] es (Nat.zero_le _) hl hj)
  have HM := Lib.hid h
  clear h hj hl
  go_enter Tryz.func94, Tryz.ntmps94
  go_upto_region 1 with fail
  revert HB0
  generalize w.alloc (.cells #[.int .u8 0, .bool false, .int .i64 0, .string ⟨#[]⟩, .slice none 0 0, .slice none 0 0] 77) = W0
  intro HB0
  have HT := Lib.hid (jsonOwn HJ.out [.int .u8 5, .bool false, .int .i64 0, .string ⟨#[]⟩, .slice none 0 0, .slice a es.length c] W0 (.cons (.atom _) (.cons (.atom _) (.cons (.atom _) (.cons (.atom _) (.cons (nil_mem _ _ _ 1) (.cons (HM.out.grow HB0.out.below) (MemL.nil _ _ _))))))))
  go_wp2_with fail
  refine HT.out.mono ?_
  rintro e W1 ⟨us, rfl, hm1, hb1⟩
  obtain ⟨ya, yc, va, vc, b2, o2, vs0, hus, -, -⟩ := json_open hm1
  subst hus
  have hme : Mem true (From W0.heap.size) W1 (.list 6 es) (.slice va es.length vc) := hm1.2 5 _ _ rfl rfl
  have HB1 := Lib.hid (HB0.out.call hb1)
  have HL := Lib.hid HB0.out.lt
  have q0 := HB1.out.cp 0 _ rfl
  have q1 := HB1.out.cp 1 _ rfl
  have q2 := HB1.out.cp 2 _ rfl
  have q3 := HB1.out.cp 3 _ rfl
  have q4 := HB1.out.cp 4 _ rfl
  have q5 := HB1.out.cp 5 _ rfl
  have hf := HB1.out.fp
  have HE := Lib.hid hme
  clear hm1 hb1 hme HT HM HJ
  go_wp2_with fail
  have h8 := (((((HB1.out.setP 0 (.int .u8 5)).setP 1 (.bool false)).setP 2 (.int .i64 0)).setP 3 (.string ⟨#[]⟩)).setP 4 (.slice ya 0 yc)).setP 5 (.slice va es.length vc)
  refine ret_rows (g := w.heap.size) rfl rfl (h8.cp 0 _ rfl) (h8.cp 1 _ rfl) (h8.cp 2 _ rfl) (h8.cp 3 _ rfl) (h8.cp 4 _ rfl) (h8.cp 5 _ rfl) ?_
  refine ⟨va, vc, ya, yc, rfl, ?_, h8.below⟩
  have hL := HL.out
  have hfar : ∀ (W : World) (j : Nat) (v : Value), Mem true (From W0.heap.size) W (.list 6 es) (.slice va es.length vc) → Mem true (From W0.heap.size) (W.setCell ⟨w.heap.size, j, none⟩ v) (.list 6 es) (.slice va es.length vc) := fun W j v hx =>
    hx.kept (fun b hb _ => Below.heap_setCell W ⟨w.heap.size, j, none⟩ v b (by have : W0.heap.size ≤ b := hb; show b ≠ w.heap.size; omega)) (by simp [World.setCell])
  exact (hfar _ 5 _ (hfar _ 4 _ (hfar _ 3 _ (hfar _ 2 _ (hfar _ 1 _ (hfar _ 0 _ HE.out)))))).weak fun b hb _ => by have : W0.heap.size ≤ b := hb; show w.heap.size ≤ b; omega
theorem cloneBools (a : Option Addr) (c : Nat) (l : List Bool) (w : World) (hl : l.length ≤ 1048576) (h : Mem false (From 0) w (flatL 1 boolC l) (.slice a l.length c)) :
    Calls Tryz.prog 95 #[.slice a l.length c] w fun e w' => ∃ va vc, e = .returned (.slice va l.length vc) ∧ Mem true (From w.heap.size) w' (flatL 1 boolC l) (.slice va l.length vc) ∧ Below w.heap.size w w' :=
  clone_flat Tryz.laysSlE041_f95 elemBool a c w (fun _ => rfl) (fun x u hu => by
    simp only [boolC, List.mem_cons, List.not_mem_nil, or_false] at hu
    rw [hu]; rfl) hl (by omega) h
theorem cloneActeds (a : Option Addr) (c : Nat) (l : List (ByteArray × ByteArray)) (w : World) (hl : l.length ≤ 1048576) (h : Mem false (From 0) w (flatL 2 pairC l) (.slice a l.length c)) :
    Calls Tryz.prog 96 #[.slice a l.length c] w fun e w' => ∃ va vc, e = .returned (.slice va l.length vc) ∧ Mem true (From w.heap.size) w' (flatL 2 pairC l) (.slice va l.length vc) ∧ Below w.heap.size w w' :=
  clone_flat Tryz.cloneActed elemActed a c w (fun _ => rfl) (fun x u hu => by
    simp only [pairC, List.mem_cons, List.not_mem_nil, or_false] at hu
    rcases hu with rfl | rfl <;> rfl) hl (by omega) h
/-- a case's box, and what has been made -/
structure CB (g : Nat) (w W : World) (a1 : Option Addr) (c1 : Nat) (a2 : Option Addr) (c2 : Nat) (a3 : Option Addr) (c3 : Nat) (a4 : Option Addr) (c4 : Nat) (cd : CaseD) : Prop where
  below : Below w.heap.size w W
  k3 : W.cell? ⟨g, 3, none⟩ = some (.slice a1 cd.values.length c1)
  k4 : W.cell? ⟨g, 4, none⟩ = some (.slice a2 cd.opn.length c2)
  k5 : W.cell? ⟨g, 5, none⟩ = some (.slice a3 cd.done.length c3)
  k6 : W.cell? ⟨g, 6, none⟩ = some (.slice a4 cd.acted.length c4)
  fz : ∀ j, W.frozen? ⟨g, j, none⟩ = false
structure PC (fs : List (D × Value)) (g : Nat) (w W : World) (a1 : Option Addr) (c1 : Nat) (a2 : Option Addr) (c2 : Nat) (a3 : Option Addr) (c3 : Nat) (a4 : Option Addr) (c4 : Nat) (cd : CaseD) : Prop where
  bx : CB g w W a1 c1 a2 c2 a3 c3 a4 c4 cd
  ms : ∀ p ∈ fs, Mem true (From w.heap.size) W p.1 p.2
section
variable {fs : List (D × Value)} {g : Nat} {w W W' : World} {a1 : Option Addr} {c1 : Nat} {a2 : Option Addr} {c2 : Nat} {a3 : Option Addr} {c3 : Nat} {a4 : Option Addr} {c4 : Nat} {cd : CaseD}
theorem CB.call (h : CB g w W a1 c1 a2 c2 a3 c3 a4 c4 cd) (hb : Below W.heap.size W W') : CB g w W' a1 c1 a2 c2 a3 c3 a4 c4 cd :=
  ⟨h.below.trans (hb.mono h.below.size), cellBelow2 hb h.k3, cellBelow2 hb h.k4, cellBelow2 hb h.k5, cellBelow2 hb h.k6, fun j => by rw [hb.frozen (p := ⟨g, j, none⟩) (World.block_lt_of_cell? W ⟨g, 3, none⟩ h.k3)]; exact h.fz j⟩
theorem PC.start (h : CB g w W a1 c1 a2 c2 a3 c3 a4 c4 cd) : PC [] g w W a1 c1 a2 c2 a3 c3 a4 c4 cd := ⟨h, fun p hp => absurd hp (by simp)⟩
theorem PC.made (h : PC fs g w W a1 c1 a2 c2 a3 c3 a4 c4 cd) (hb : Below W.heap.size W W') {d : D} {v : Value} (hm : Mem true (From W.heap.size) W' d v) : PC ((d, v) :: fs) g w W' a1 c1 a2 c2 a3 c3 a4 c4 cd :=
  ⟨h.bx.call hb, fun p hp => by
    rcases List.mem_cons.1 hp with rfl | hp
    · exact hm.weak fun b hb2 _ => by have : W.heap.size ≤ b := hb2; have := h.bx.below.size; show w.heap.size ≤ b; omega
    · exact (h.ms p hp).grow hb⟩
theorem PC.mem {v1 v2 v3 v4 : Value} (h : PC [(flatL 2 pairC cd.acted, v4), (flatL 1 boolC cd.done, v3), (flatL 1 boolC cd.opn, v2), (.list 6 cd.values, v1)] g w W a1 c1 a2 c2 a3 c3 a4 c4 cd) : CaseM true (From w.heap.size) W cd v1 v2 v3 v4 :=
  ⟨h.ms (.list 6 cd.values, v1) (by simp), h.ms (flatL 1 boolC cd.opn, v2) (by simp), h.ms (flatL 1 boolC cd.done, v3) (by simp), h.ms (flatL 2 pairC cd.acted, v4) (by simp)⟩
end
/-- how own ends -/
def OwnEnd (g : Nat) (cd : CaseD) (w : World) (e : Ending) (w' : World) : Prop :=
  e = .returned (.tuple #[]) ∧ ∃ va1 vc1 va2 vc2 va3 vc3 va4 vc4 W, Below w.heap.size w W ∧ CaseM true (From w.heap.size) W cd (.slice va1 cd.values.length vc1) (.slice va2 cd.opn.length vc2) (.slice va3 cd.done.length vc3) (.slice va4 cd.acted.length vc4) ∧
    w' = (((W.setCell ⟨g, 3, none⟩ (.slice va1 cd.values.length vc1)).setCell ⟨g, 4, none⟩ (.slice va2 cd.opn.length vc2)).setCell ⟨g, 5, none⟩ (.slice va3 cd.done.length vc3)).setCell ⟨g, 6, none⟩ (.slice va4 cd.acted.length vc4)
set_option maxHeartbeats 8000000 in
set_option maxRecDepth 100000 in
theorem ownM (cd : CaseD) (hok : cd.Ok) (g : Nat) (a1 : Option Addr) (c1 : Nat) (a2 : Option Addr) (c2 : Nat) (a3 : Option Addr) (c3 : Nat) (a4 : Option Addr) (c4 : Nat) (w : World)
    (hM : CaseM false (From 0) w cd (.slice a1 cd.values.length c1) (.slice a2 cd.opn.length c2) (.slice a3 cd.done.length c3) (.slice a4 cd.acted.length c4)) (hc : CB g w w a1 c1 a2 c2 a3 c3 a4 c4 cd) :
    Calls Tryz.prog 47 #[.pointer (some ⟨g, 0, none⟩)] w (OwnEnd g cd w) := by
  have HC1 := Lib.hid (fun W (hb : Below w.heap.size w W) => rowsM cd.values a1 c1 W hok.vl hok.vj (hM.v.grow hb))
  have HC2 := Lib.hid (fun W (hb : Below w.heap.size w W) => cloneBools a2 c2 cd.opn W hok.ol (hM.op.grow hb))
  have HC3 := Lib.hid (fun W (hb : Below w.heap.size w W) => cloneBools a3 c3 cd.done W hok.dl (hM.d.grow hb))
  have HC4 := Lib.hid (fun W (hb : Below w.heap.size w W) => cloneActeds a4 c4 cd.acted W hok.al (hM.a.grow hb))
  have hq0 := PC.start (hc.call (Below.refl _ _).drew)
  clear hM hc hok
  go_enter Tryz.func47, Tryz.ntmps47
  go_upto_region 0 with fail
  refine Until.start (S := fun W => CB g w W a1 c1 a2 c2 a3 c3 a4 c4 cd) (st := 27) (by kernel_rfl) ?_
  have hH := hq0.bx
  refine Until.take (i := 0) (oi := { dst := some 2, op := Op.move (Operand.tmp 0), type := 107, pos := "state.go:196", after := #[], guard := none }) (v := .pointer (some ⟨g, 0, none⟩)) rfl (by kernel_rfl) (by kernel_rfl) (by kernel_rfl) (fun _ _ _ h => h) (by decide) (Or.inl ⟨by rfl, fun W _ => by go_simp⟩) (fun _ => hH) ?_
  simp only [Act.put, List.setIfInBounds_toArray, List.set_cons_zero, List.set_cons_succ]
  refine Until.take (i := 1) (oi := { dst := some 3, op := Op.move (Operand.tmp 0), type := 107, pos := "state.go:196", after := #[{ on := 27, ground := Ground.gcOnly Departure.lateStores }], guard := none }) (v := .pointer (some ⟨g, 0, none⟩)) rfl (by kernel_rfl) (by kernel_rfl) (by kernel_rfl) (fun _ _ _ h => h) (by decide) (Or.inl ⟨by rfl, fun W _ => by go_simp⟩) (fun _ => hH) ?_
  simp only [Act.put, List.setIfInBounds_toArray, List.set_cons_zero, List.set_cons_succ]
  refine Until.take (i := 2) (oi := { dst := some 4, op := Op.move (Operand.tmp 0), type := 107, pos := "state.go:196", after := #[{ on := 30, ground := Ground.gcOnly Departure.lateStores }], guard := none }) (v := .pointer (some ⟨g, 0, none⟩)) rfl (by kernel_rfl) (by kernel_rfl) (by kernel_rfl) (fun _ _ _ h => h) (by decide) (Or.inl ⟨by rfl, fun W _ => by go_simp⟩) (fun _ => hH) ?_
  simp only [Act.put, List.setIfInBounds_toArray, List.set_cons_zero, List.set_cons_succ]
  refine Until.take (i := 3) (oi := { dst := some 5, op := Op.move (Operand.tmp 0), type := 107, pos := "state.go:196", after := #[{ on := 33, ground := Ground.gcOnly Departure.lateStores }], guard := none }) (v := .pointer (some ⟨g, 0, none⟩)) rfl (by kernel_rfl) (by kernel_rfl) (by kernel_rfl) (fun _ _ _ h => h) (by decide) (Or.inl ⟨by rfl, fun W _ => by go_simp⟩) (fun _ => hH) ?_
  simp only [Act.put, List.setIfInBounds_toArray, List.set_cons_zero, List.set_cons_succ]
  refine Until.take (i := 4) (oi := { dst := some 6, op := Op.move (Operand.tmp 0), type := 107, pos := "state.go:196", after := #[], guard := none }) (v := .pointer (some ⟨g, 0, none⟩)) rfl (by kernel_rfl) (by kernel_rfl) (by kernel_rfl) (fun _ _ _ h => h) (by decide) (Or.inl ⟨by rfl, fun W _ => by go_simp⟩) (fun _ => hH) ?_
  simp only [Act.put, List.setIfInBounds_toArray, List.set_cons_zero, List.set_cons_succ]
  refine Until.take (i := 5) (oi := { dst := some 7, op := Op.nilCheck (Operand.tmp 6), type := 0, pos := "state.go:196", after := #[{ on := 4, ground := Ground.data }], guard := none }) (v := .pointer (some ⟨g, 0, none⟩)) rfl (by kernel_rfl) (by kernel_rfl) (by kernel_rfl) (fun _ _ _ h => h) (by decide) (Or.inl ⟨by rfl, fun W _ => by go_simp⟩) (fun _ => hH) ?_
  simp only [Act.put, List.setIfInBounds_toArray, List.set_cons_zero, List.set_cons_succ]
  refine Until.take (i := 6) (oi := { dst := some 8, op := Op.fieldAddr 64 (Operand.tmp 7) 3, type := 0, pos := "state.go:196", after := #[{ on := 5, ground := Ground.data }], guard := none }) (v := .pointer (some ⟨g, 3, none⟩)) rfl (by kernel_rfl) (by kernel_rfl) (by kernel_rfl) (fun _ _ _ h => h) (by decide) (Or.inl ⟨by rfl, fun W _ => by go_simp⟩) (fun _ => hH) ?_
  simp only [Act.put, List.setIfInBounds_toArray, List.set_cons_zero, List.set_cons_succ]
  refine Until.load (i := 7) (oi := { dst := some 9, op := Op.load 60 (Operand.tmp 8), type := 60, pos := "state.go:196", after := #[{ on := 6, ground := Ground.data }], guard := none }) (v := .slice a1 cd.values.length c1) rfl (by kernel_rfl) (by kernel_rfl) (by kernel_rfl) (fun _ _ _ h => h) (by decide) (by kernel_rfl) (by kernel_rfl) (Or.inl ⟨by rfl, fun W hS => by have k := hS.k3; go_simp⟩) hH ?_
  simp only [Act.put, List.setIfInBounds_toArray, List.set_cons_zero, List.set_cons_succ]
  refine Until.take (i := 10) (oi := { dst := some 12, op := Op.move (Operand.tmp 0), type := 107, pos := "state.go:196", after := #[], guard := none }) (v := .pointer (some ⟨g, 0, none⟩)) rfl (by kernel_rfl) (by kernel_rfl) (by kernel_rfl) (fun _ _ _ h => h) (by decide) (Or.inl ⟨by rfl, fun W _ => by go_simp⟩) (fun _ => hH) ?_
  simp only [Act.put, List.setIfInBounds_toArray, List.set_cons_zero, List.set_cons_succ]
  refine Until.take (i := 11) (oi := { dst := some 13, op := Op.nilCheck (Operand.tmp 12), type := 0, pos := "state.go:196", after := #[{ on := 10, ground := Ground.data }], guard := none }) (v := .pointer (some ⟨g, 0, none⟩)) rfl (by kernel_rfl) (by kernel_rfl) (by kernel_rfl) (fun _ _ _ h => h) (by decide) (Or.inl ⟨by rfl, fun W _ => by go_simp⟩) (fun _ => hH) ?_
  simp only [Act.put, List.setIfInBounds_toArray, List.set_cons_zero, List.set_cons_succ]
  refine Until.take (i := 12) (oi := { dst := some 14, op := Op.fieldAddr 64 (Operand.tmp 13) 4, type := 0, pos := "state.go:196", after := #[{ on := 11, ground := Ground.data }], guard := none }) (v := .pointer (some ⟨g, 4, none⟩)) rfl (by kernel_rfl) (by kernel_rfl) (by kernel_rfl) (fun _ _ _ h => h) (by decide) (Or.inl ⟨by rfl, fun W _ => by go_simp⟩) (fun _ => hH) ?_
  simp only [Act.put, List.setIfInBounds_toArray, List.set_cons_zero, List.set_cons_succ]
  refine Until.load (i := 13) (oi := { dst := some 15, op := Op.load 61 (Operand.tmp 14), type := 61, pos := "state.go:196", after := #[{ on := 12, ground := Ground.data }], guard := none }) (v := .slice a2 cd.opn.length c2) rfl (by kernel_rfl) (by kernel_rfl) (by kernel_rfl) (fun _ _ _ h => h) (by decide) (by kernel_rfl) (by kernel_rfl) (Or.inl ⟨by rfl, fun W hS => by have k := hS.k4; go_simp⟩) hH ?_
  simp only [Act.put, List.setIfInBounds_toArray, List.set_cons_zero, List.set_cons_succ]
  refine Until.take (i := 15) (oi := { dst := some 17, op := Op.move (Operand.tmp 0), type := 107, pos := "state.go:196", after := #[], guard := none }) (v := .pointer (some ⟨g, 0, none⟩)) rfl (by kernel_rfl) (by kernel_rfl) (by kernel_rfl) (fun _ _ _ h => h) (by decide) (Or.inl ⟨by rfl, fun W _ => by go_simp⟩) (fun _ => hH) ?_
  simp only [Act.put, List.setIfInBounds_toArray, List.set_cons_zero, List.set_cons_succ]
  refine Until.take (i := 16) (oi := { dst := some 18, op := Op.nilCheck (Operand.tmp 17), type := 0, pos := "state.go:196", after := #[{ on := 15, ground := Ground.data }], guard := none }) (v := .pointer (some ⟨g, 0, none⟩)) rfl (by kernel_rfl) (by kernel_rfl) (by kernel_rfl) (fun _ _ _ h => h) (by decide) (Or.inl ⟨by rfl, fun W _ => by go_simp⟩) (fun _ => hH) ?_
  simp only [Act.put, List.setIfInBounds_toArray, List.set_cons_zero, List.set_cons_succ]
  refine Until.take (i := 17) (oi := { dst := some 19, op := Op.fieldAddr 64 (Operand.tmp 18) 5, type := 0, pos := "state.go:196", after := #[{ on := 16, ground := Ground.data }], guard := none }) (v := .pointer (some ⟨g, 5, none⟩)) rfl (by kernel_rfl) (by kernel_rfl) (by kernel_rfl) (fun _ _ _ h => h) (by decide) (Or.inl ⟨by rfl, fun W _ => by go_simp⟩) (fun _ => hH) ?_
  simp only [Act.put, List.setIfInBounds_toArray, List.set_cons_zero, List.set_cons_succ]
  refine Until.load (i := 18) (oi := { dst := some 20, op := Op.load 61 (Operand.tmp 19), type := 61, pos := "state.go:196", after := #[{ on := 17, ground := Ground.data }], guard := none }) (v := .slice a3 cd.done.length c3) rfl (by kernel_rfl) (by kernel_rfl) (by kernel_rfl) (fun _ _ _ h => h) (by decide) (by kernel_rfl) (by kernel_rfl) (Or.inl ⟨by rfl, fun W hS => by have k := hS.k5; go_simp⟩) hH ?_
  simp only [Act.put, List.setIfInBounds_toArray, List.set_cons_zero, List.set_cons_succ]
  refine Until.take (i := 20) (oi := { dst := some 22, op := Op.move (Operand.tmp 0), type := 107, pos := "state.go:196", after := #[], guard := none }) (v := .pointer (some ⟨g, 0, none⟩)) rfl (by kernel_rfl) (by kernel_rfl) (by kernel_rfl) (fun _ _ _ h => h) (by decide) (Or.inl ⟨by rfl, fun W _ => by go_simp⟩) (fun _ => hH) ?_
  simp only [Act.put, List.setIfInBounds_toArray, List.set_cons_zero, List.set_cons_succ]
  refine Until.take (i := 21) (oi := { dst := some 23, op := Op.nilCheck (Operand.tmp 22), type := 0, pos := "state.go:196", after := #[{ on := 20, ground := Ground.data }], guard := none }) (v := .pointer (some ⟨g, 0, none⟩)) rfl (by kernel_rfl) (by kernel_rfl) (by kernel_rfl) (fun _ _ _ h => h) (by decide) (Or.inl ⟨by rfl, fun W _ => by go_simp⟩) (fun _ => hH) ?_
  simp only [Act.put, List.setIfInBounds_toArray, List.set_cons_zero, List.set_cons_succ]
  refine Until.take (i := 22) (oi := { dst := some 24, op := Op.fieldAddr 64 (Operand.tmp 23) 6, type := 0, pos := "state.go:196", after := #[{ on := 21, ground := Ground.data }], guard := none }) (v := .pointer (some ⟨g, 6, none⟩)) rfl (by kernel_rfl) (by kernel_rfl) (by kernel_rfl) (fun _ _ _ h => h) (by decide) (Or.inl ⟨by rfl, fun W _ => by go_simp⟩) (fun _ => hH) ?_
  simp only [Act.put, List.setIfInBounds_toArray, List.set_cons_zero, List.set_cons_succ]
  refine Until.load (i := 23) (oi := { dst := some 25, op := Op.load 62 (Operand.tmp 24), type := 62, pos := "state.go:196", after := #[{ on := 22, ground := Ground.data }], guard := none }) (v := .slice a4 cd.acted.length c4) rfl (by kernel_rfl) (by kernel_rfl) (by kernel_rfl) (fun _ _ _ h => h) (by decide) (by kernel_rfl) (by kernel_rfl) (Or.inl ⟨by rfl, fun W hS => by have k := hS.k6; go_simp⟩) hH ?_
  simp only [Act.put, List.setIfInBounds_toArray, List.set_cons_zero, List.set_cons_succ]
  refine Until.one (i := 8) (o := { dst := some 10, op := Op.call { callee := Callee.value (Operand.func 94), args := #[Operand.tmp 9], argTypes := #[60] }, type := 77, pos := "state.go:196", after := #[{ on := 7, ground := Ground.data }], guard := none }) (by kernel_rfl) rfl (fun K hK => ?_)
  go_simp
  go_at_call 94
  refine (HC1.out _ hH.below).mono ?_
  rintro e W1 ⟨va1, vc1, ya, yc, rfl, hm1, hb1⟩
  have hq1 := hq0.made hb1 hm1
  clear hb1 hm1 hq0 HC1
  have hH' := hq1.bx
  go_wp2_with fail
  refine hK.out _ _ (fun _ => hH') ?_
  clear hK K hH
  try simp only [Act.put, List.setIfInBounds_toArray, List.set_cons_zero, List.set_cons_succ]
  have hH := hH'
  clear hH'
  refine Until.take (i := 9) (oi := { dst := some 11, op := Op.field 77 (Operand.tmp 10) 5, type := 60, pos := "state.go:196", after := #[{ on := 8, ground := Ground.data }], guard := none }) (v := .slice va1 cd.values.length vc1) rfl (by kernel_rfl) (by kernel_rfl) (by kernel_rfl) (fun _ _ _ h => h) (by decide) (Or.inl ⟨by rfl, fun W _ => by have hfd : (Instr.field 77 (.agg #[.int .u8 5, .bool false, .int .i64 0, .string ⟨#[]⟩, .slice ya 0 yc, .slice va1 cd.values.length vc1]) 5).run Tryz.prog W = .ok (.slice va1 cd.values.length vc1) W := (by kernel_rfl); go_simp⟩) (fun _ => hH) ?_
  simp only [Act.put, List.setIfInBounds_toArray, List.set_cons_zero, List.set_cons_succ]
  refine Until.one (i := 14) (o := { dst := some 16, op := Op.call { callee := Callee.value (Operand.func 95), args := #[Operand.tmp 15], argTypes := #[61] }, type := 61, pos := "state.go:196", after := #[{ on := 13, ground := Ground.data }, { on := 8, ground := Ground.chain }], guard := none }) (by kernel_rfl) rfl (fun K hK => ?_)
  go_simp
  go_at_call 95
  refine (HC2.out _ hH.below).mono ?_
  rintro e W2 ⟨va2, vc2, rfl, hm2, hb2⟩
  have hq2 := hq1.made hb2 hm2
  clear hb2 hm2 hq1 HC2
  have hH' := hq2.bx
  go_wp2_with fail
  refine hK.out _ _ (fun _ => hH') ?_
  clear hK K hH
  try simp only [Act.put, List.setIfInBounds_toArray, List.set_cons_zero, List.set_cons_succ]
  have hH := hH'
  clear hH'
  refine Until.one (i := 19) (o := { dst := some 21, op := Op.call { callee := Callee.value (Operand.func 95), args := #[Operand.tmp 20], argTypes := #[61] }, type := 61, pos := "state.go:196", after := #[{ on := 18, ground := Ground.data }, { on := 14, ground := Ground.chain }], guard := none }) (by kernel_rfl) rfl (fun K hK => ?_)
  go_simp
  go_at_call 95
  refine (HC3.out _ hH.below).mono ?_
  rintro e W3 ⟨va3, vc3, rfl, hm3, hb3⟩
  have hq3 := hq2.made hb3 hm3
  clear hb3 hm3 hq2 HC3
  have hH' := hq3.bx
  go_wp2_with fail
  refine hK.out _ _ (fun _ => hH') ?_
  clear hK K hH
  try simp only [Act.put, List.setIfInBounds_toArray, List.set_cons_zero, List.set_cons_succ]
  have hH := hH'
  clear hH'
  refine Until.one (i := 24) (o := { dst := some 26, op := Op.call { callee := Callee.value (Operand.func 96), args := #[Operand.tmp 25], argTypes := #[62] }, type := 62, pos := "state.go:196", after := #[{ on := 23, ground := Ground.data }, { on := 19, ground := Ground.chain }], guard := none }) (by kernel_rfl) rfl (fun K hK => ?_)
  go_simp
  go_at_call 96
  refine (HC4.out _ hH.below).mono ?_
  rintro e W4 ⟨va4, vc4, rfl, hm4, hb4⟩
  have hq4 := hq3.made hb4 hm4
  clear hb4 hm4 hq3 HC4
  have hH' := hq4.bx
  go_wp2_with fail
  refine hK.out _ _ (fun _ => hH') ?_
  clear hK K hH
  try simp only [Act.put, List.setIfInBounds_toArray, List.set_cons_zero, List.set_cons_succ]
  have hH := hH'
  clear hH'
  refine Until.take (i := 25) (oi := { dst := some 27, op := Op.nilCheck (Operand.tmp 2), type := 0, pos := "state.go:196", after := #[{ on := 0, ground := Ground.data }, { on := 0, ground := Ground.phase }, { on := 1, ground := Ground.textOnly Departure.lateStores }, { on := 2, ground := Ground.textOnly Departure.lateStores }, { on := 3, ground := Ground.textOnly Departure.lateStores }, { on := 4, ground := Ground.phase }, { on := 5, ground := Ground.phase }, { on := 6, ground := Ground.phase }, { on := 7, ground := Ground.phase }, { on := 8, ground := Ground.phase }, { on := 9, ground := Ground.phase }, { on := 10, ground := Ground.textOnly Departure.lateStores }, { on := 11, ground := Ground.textOnly Departure.lateStoresUnsure }, { on := 12, ground := Ground.textOnly Departure.lateStoresUnsure }, { on := 13, ground := Ground.phase }, { on := 14, ground := Ground.phase }, { on := 15, ground := Ground.textOnly Departure.lateStores }, { on := 16, ground := Ground.textOnly Departure.lateStoresUnsure }, { on := 17, ground := Ground.textOnly Departure.lateStoresUnsure }, { on := 18, ground := Ground.phase }, { on := 19, ground := Ground.phase }, { on := 20, ground := Ground.textOnly Departure.lateStores }, { on := 21, ground := Ground.textOnly Departure.lateStoresUnsure }, { on := 22, ground := Ground.textOnly Departure.lateStoresUnsure }, { on := 23, ground := Ground.phase }, { on := 24, ground := Ground.phase }], guard := none }) (v := .pointer (some ⟨g, 0, none⟩)) rfl (by kernel_rfl) (by kernel_rfl) (by kernel_rfl) (fun _ _ _ h => h) (by decide) (Or.inl ⟨by rfl, fun W _ => by go_simp⟩) (fun _ => hH) ?_
  simp only [Act.put, List.setIfInBounds_toArray, List.set_cons_zero, List.set_cons_succ]
  refine Until.take (i := 26) (oi := { dst := some 28, op := Op.fieldAddr 64 (Operand.tmp 27) 3, type := 0, pos := "state.go:196", after := #[{ on := 25, ground := Ground.data }, { on := 0, ground := Ground.phase }, { on := 1, ground := Ground.textOnly Departure.lateStores }, { on := 2, ground := Ground.textOnly Departure.lateStores }, { on := 3, ground := Ground.textOnly Departure.lateStores }, { on := 4, ground := Ground.phase }, { on := 5, ground := Ground.phase }, { on := 6, ground := Ground.phase }, { on := 7, ground := Ground.phase }, { on := 8, ground := Ground.phase }, { on := 9, ground := Ground.phase }, { on := 10, ground := Ground.textOnly Departure.lateStores }, { on := 11, ground := Ground.textOnly Departure.lateStoresUnsure }, { on := 12, ground := Ground.textOnly Departure.lateStoresUnsure }, { on := 13, ground := Ground.phase }, { on := 14, ground := Ground.phase }, { on := 15, ground := Ground.textOnly Departure.lateStores }, { on := 16, ground := Ground.textOnly Departure.lateStoresUnsure }, { on := 17, ground := Ground.textOnly Departure.lateStoresUnsure }, { on := 18, ground := Ground.phase }, { on := 19, ground := Ground.phase }, { on := 20, ground := Ground.textOnly Departure.lateStores }, { on := 21, ground := Ground.textOnly Departure.lateStoresUnsure }, { on := 22, ground := Ground.textOnly Departure.lateStoresUnsure }, { on := 23, ground := Ground.phase }, { on := 24, ground := Ground.phase }], guard := none }) (v := .pointer (some ⟨g, 3, none⟩)) rfl (by kernel_rfl) (by kernel_rfl) (by kernel_rfl) (fun _ _ _ h => h) (by decide) (Or.inl ⟨by rfl, fun W _ => by go_simp⟩) (fun _ => hH) ?_
  simp only [Act.put, List.setIfInBounds_toArray, List.set_cons_zero, List.set_cons_succ]
  refine Until.one (i := 27) (o := { dst := none, op := Op.store 60 (Operand.tmp 28) (Operand.tmp 11), type := 0, pos := "state.go:196", after := #[{ on := 26, ground := Ground.data }, { on := 9, ground := Ground.data }, { on := 24, ground := Ground.chain }, { on := 0, ground := Ground.phase }, { on := 1, ground := Ground.textOnly Departure.lateStores }, { on := 2, ground := Ground.textOnly Departure.lateStores }, { on := 3, ground := Ground.textOnly Departure.lateStores }, { on := 4, ground := Ground.phase }, { on := 5, ground := Ground.phase }, { on := 6, ground := Ground.phase }, { on := 7, ground := Ground.phase }, { on := 8, ground := Ground.phase }, { on := 9, ground := Ground.phase }, { on := 10, ground := Ground.textOnly Departure.lateStores }, { on := 11, ground := Ground.textOnly Departure.lateStoresUnsure }, { on := 12, ground := Ground.textOnly Departure.lateStoresUnsure }, { on := 13, ground := Ground.phase }, { on := 14, ground := Ground.phase }, { on := 15, ground := Ground.textOnly Departure.lateStores }, { on := 16, ground := Ground.textOnly Departure.lateStoresUnsure }, { on := 17, ground := Ground.textOnly Departure.lateStoresUnsure }, { on := 18, ground := Ground.phase }, { on := 19, ground := Ground.phase }, { on := 20, ground := Ground.textOnly Departure.lateStores }, { on := 21, ground := Ground.textOnly Departure.lateStoresUnsure }, { on := 22, ground := Ground.textOnly Departure.lateStoresUnsure }, { on := 23, ground := Ground.phase }, { on := 24, ground := Ground.phase }], guard := none }) (by kernel_rfl) rfl (fun K hK => ?_)
  have k3 := hq4.bx.k3
  have k4 := hq4.bx.k4
  have k5 := hq4.bx.k5
  have k6 := hq4.bx.k6
  have f3 := hq4.bx.fz 3
  have f4 := hq4.bx.fz 4
  have f5 := hq4.bx.fz 5
  have f6 := hq4.bx.fz 6
  go_simp
  refine hK.out _ _ (fun h => absurd h (by decide +kernel)) ?_
  clear hK K
  try simp only [Act.put, List.setIfInBounds_toArray, List.set_cons_zero, List.set_cons_succ]
  refine Until.take (i := 28) (oi := { dst := some 29, op := Op.nilCheck (Operand.tmp 3), type := 0, pos := "state.go:196", after := #[{ on := 1, ground := Ground.data }, { on := 0, ground := Ground.phase }, { on := 1, ground := Ground.phase }, { on := 2, ground := Ground.textOnly Departure.lateStores }, { on := 3, ground := Ground.textOnly Departure.lateStores }, { on := 4, ground := Ground.phase }, { on := 5, ground := Ground.phase }, { on := 6, ground := Ground.phase }, { on := 7, ground := Ground.phase }, { on := 8, ground := Ground.phase }, { on := 9, ground := Ground.phase }, { on := 10, ground := Ground.phase }, { on := 11, ground := Ground.phase }, { on := 12, ground := Ground.phase }, { on := 13, ground := Ground.phase }, { on := 14, ground := Ground.phase }, { on := 15, ground := Ground.textOnly Departure.lateStores }, { on := 16, ground := Ground.textOnly Departure.lateStoresUnsure }, { on := 17, ground := Ground.textOnly Departure.lateStoresUnsure }, { on := 18, ground := Ground.phase }, { on := 19, ground := Ground.phase }, { on := 20, ground := Ground.textOnly Departure.lateStores }, { on := 21, ground := Ground.textOnly Departure.lateStoresUnsure }, { on := 22, ground := Ground.textOnly Departure.lateStoresUnsure }, { on := 23, ground := Ground.phase }, { on := 24, ground := Ground.phase }, { on := 25, ground := Ground.phase }, { on := 26, ground := Ground.phase }, { on := 27, ground := Ground.phase }], guard := none }) (v := .pointer (some ⟨g, 0, none⟩)) rfl (by kernel_rfl) (by kernel_rfl) (by kernel_rfl) (fun _ _ _ h => h) (by decide) (Or.inl ⟨by rfl, fun W _ => by go_simp⟩) (fun h => absurd h (by decide +kernel)) ?_
  simp only [Act.put, List.setIfInBounds_toArray, List.set_cons_zero, List.set_cons_succ]
  refine Until.take (i := 29) (oi := { dst := some 30, op := Op.fieldAddr 64 (Operand.tmp 29) 4, type := 0, pos := "state.go:196", after := #[{ on := 28, ground := Ground.data }, { on := 0, ground := Ground.phase }, { on := 1, ground := Ground.phase }, { on := 2, ground := Ground.textOnly Departure.lateStores }, { on := 3, ground := Ground.textOnly Departure.lateStores }, { on := 4, ground := Ground.phase }, { on := 5, ground := Ground.phase }, { on := 6, ground := Ground.phase }, { on := 7, ground := Ground.phase }, { on := 8, ground := Ground.phase }, { on := 9, ground := Ground.phase }, { on := 10, ground := Ground.phase }, { on := 11, ground := Ground.phase }, { on := 12, ground := Ground.phase }, { on := 13, ground := Ground.phase }, { on := 14, ground := Ground.phase }, { on := 15, ground := Ground.textOnly Departure.lateStores }, { on := 16, ground := Ground.textOnly Departure.lateStoresUnsure }, { on := 17, ground := Ground.textOnly Departure.lateStoresUnsure }, { on := 18, ground := Ground.phase }, { on := 19, ground := Ground.phase }, { on := 20, ground := Ground.textOnly Departure.lateStores }, { on := 21, ground := Ground.textOnly Departure.lateStoresUnsure }, { on := 22, ground := Ground.textOnly Departure.lateStoresUnsure }, { on := 23, ground := Ground.phase }, { on := 24, ground := Ground.phase }, { on := 25, ground := Ground.phase }, { on := 26, ground := Ground.phase }, { on := 27, ground := Ground.phase }], guard := none }) (v := .pointer (some ⟨g, 4, none⟩)) rfl (by kernel_rfl) (by kernel_rfl) (by kernel_rfl) (fun _ _ _ h => h) (by decide) (Or.inl ⟨by rfl, fun W _ => by go_simp⟩) (fun h => absurd h (by decide +kernel)) ?_
  simp only [Act.put, List.setIfInBounds_toArray, List.set_cons_zero, List.set_cons_succ]
  refine Until.one (i := 30) (o := { dst := none, op := Op.store 61 (Operand.tmp 30) (Operand.tmp 16), type := 0, pos := "state.go:196", after := #[{ on := 29, ground := Ground.data }, { on := 14, ground := Ground.data }, { on := 27, ground := Ground.chain }, { on := 0, ground := Ground.phase }, { on := 1, ground := Ground.phase }, { on := 2, ground := Ground.textOnly Departure.lateStores }, { on := 3, ground := Ground.textOnly Departure.lateStores }, { on := 4, ground := Ground.phase }, { on := 5, ground := Ground.phase }, { on := 6, ground := Ground.phase }, { on := 7, ground := Ground.phase }, { on := 8, ground := Ground.phase }, { on := 9, ground := Ground.phase }, { on := 10, ground := Ground.phase }, { on := 11, ground := Ground.phase }, { on := 12, ground := Ground.phase }, { on := 13, ground := Ground.phase }, { on := 14, ground := Ground.phase }, { on := 15, ground := Ground.textOnly Departure.lateStores }, { on := 16, ground := Ground.textOnly Departure.lateStoresUnsure }, { on := 17, ground := Ground.textOnly Departure.lateStoresUnsure }, { on := 18, ground := Ground.phase }, { on := 19, ground := Ground.phase }, { on := 20, ground := Ground.textOnly Departure.lateStores }, { on := 21, ground := Ground.textOnly Departure.lateStoresUnsure }, { on := 22, ground := Ground.textOnly Departure.lateStoresUnsure }, { on := 23, ground := Ground.phase }, { on := 24, ground := Ground.phase }, { on := 25, ground := Ground.phase }, { on := 26, ground := Ground.phase }, { on := 27, ground := Ground.phase }], guard := none }) (by kernel_rfl) rfl (fun K hK => ?_)
  go_simp
  refine hK.out _ _ (fun h => absurd h (by decide +kernel)) ?_
  clear hK K
  try simp only [Act.put, List.setIfInBounds_toArray, List.set_cons_zero, List.set_cons_succ]
  refine Until.take (i := 31) (oi := { dst := some 31, op := Op.nilCheck (Operand.tmp 4), type := 0, pos := "state.go:196", after := #[{ on := 2, ground := Ground.data }, { on := 0, ground := Ground.phase }, { on := 1, ground := Ground.phase }, { on := 2, ground := Ground.phase }, { on := 3, ground := Ground.textOnly Departure.lateStores }, { on := 4, ground := Ground.phase }, { on := 5, ground := Ground.phase }, { on := 6, ground := Ground.phase }, { on := 7, ground := Ground.phase }, { on := 8, ground := Ground.phase }, { on := 9, ground := Ground.phase }, { on := 10, ground := Ground.phase }, { on := 11, ground := Ground.phase }, { on := 12, ground := Ground.phase }, { on := 13, ground := Ground.phase }, { on := 14, ground := Ground.phase }, { on := 15, ground := Ground.phase }, { on := 16, ground := Ground.phase }, { on := 17, ground := Ground.phase }, { on := 18, ground := Ground.phase }, { on := 19, ground := Ground.phase }, { on := 20, ground := Ground.textOnly Departure.lateStores }, { on := 21, ground := Ground.textOnly Departure.lateStoresUnsure }, { on := 22, ground := Ground.textOnly Departure.lateStoresUnsure }, { on := 23, ground := Ground.phase }, { on := 24, ground := Ground.phase }, { on := 25, ground := Ground.phase }, { on := 26, ground := Ground.phase }, { on := 27, ground := Ground.phase }, { on := 28, ground := Ground.phase }, { on := 29, ground := Ground.phase }, { on := 30, ground := Ground.phase }], guard := none }) (v := .pointer (some ⟨g, 0, none⟩)) rfl (by kernel_rfl) (by kernel_rfl) (by kernel_rfl) (fun _ _ _ h => h) (by decide) (Or.inl ⟨by rfl, fun W _ => by go_simp⟩) (fun h => absurd h (by decide +kernel)) ?_
  simp only [Act.put, List.setIfInBounds_toArray, List.set_cons_zero, List.set_cons_succ]
  refine Until.take (i := 32) (oi := { dst := some 32, op := Op.fieldAddr 64 (Operand.tmp 31) 5, type := 0, pos := "state.go:196", after := #[{ on := 31, ground := Ground.data }, { on := 0, ground := Ground.phase }, { on := 1, ground := Ground.phase }, { on := 2, ground := Ground.phase }, { on := 3, ground := Ground.textOnly Departure.lateStores }, { on := 4, ground := Ground.phase }, { on := 5, ground := Ground.phase }, { on := 6, ground := Ground.phase }, { on := 7, ground := Ground.phase }, { on := 8, ground := Ground.phase }, { on := 9, ground := Ground.phase }, { on := 10, ground := Ground.phase }, { on := 11, ground := Ground.phase }, { on := 12, ground := Ground.phase }, { on := 13, ground := Ground.phase }, { on := 14, ground := Ground.phase }, { on := 15, ground := Ground.phase }, { on := 16, ground := Ground.phase }, { on := 17, ground := Ground.phase }, { on := 18, ground := Ground.phase }, { on := 19, ground := Ground.phase }, { on := 20, ground := Ground.textOnly Departure.lateStores }, { on := 21, ground := Ground.textOnly Departure.lateStoresUnsure }, { on := 22, ground := Ground.textOnly Departure.lateStoresUnsure }, { on := 23, ground := Ground.phase }, { on := 24, ground := Ground.phase }, { on := 25, ground := Ground.phase }, { on := 26, ground := Ground.phase }, { on := 27, ground := Ground.phase }, { on := 28, ground := Ground.phase }, { on := 29, ground := Ground.phase }, { on := 30, ground := Ground.phase }], guard := none }) (v := .pointer (some ⟨g, 5, none⟩)) rfl (by kernel_rfl) (by kernel_rfl) (by kernel_rfl) (fun _ _ _ h => h) (by decide) (Or.inl ⟨by rfl, fun W _ => by go_simp⟩) (fun h => absurd h (by decide +kernel)) ?_
  simp only [Act.put, List.setIfInBounds_toArray, List.set_cons_zero, List.set_cons_succ]
  refine Until.one (i := 33) (o := { dst := none, op := Op.store 61 (Operand.tmp 32) (Operand.tmp 21), type := 0, pos := "state.go:196", after := #[{ on := 32, ground := Ground.data }, { on := 19, ground := Ground.data }, { on := 30, ground := Ground.chain }, { on := 0, ground := Ground.phase }, { on := 1, ground := Ground.phase }, { on := 2, ground := Ground.phase }, { on := 3, ground := Ground.textOnly Departure.lateStores }, { on := 4, ground := Ground.phase }, { on := 5, ground := Ground.phase }, { on := 6, ground := Ground.phase }, { on := 7, ground := Ground.phase }, { on := 8, ground := Ground.phase }, { on := 9, ground := Ground.phase }, { on := 10, ground := Ground.phase }, { on := 11, ground := Ground.phase }, { on := 12, ground := Ground.phase }, { on := 13, ground := Ground.phase }, { on := 14, ground := Ground.phase }, { on := 15, ground := Ground.phase }, { on := 16, ground := Ground.phase }, { on := 17, ground := Ground.phase }, { on := 18, ground := Ground.phase }, { on := 19, ground := Ground.phase }, { on := 20, ground := Ground.textOnly Departure.lateStores }, { on := 21, ground := Ground.textOnly Departure.lateStoresUnsure }, { on := 22, ground := Ground.textOnly Departure.lateStoresUnsure }, { on := 23, ground := Ground.phase }, { on := 24, ground := Ground.phase }, { on := 25, ground := Ground.phase }, { on := 26, ground := Ground.phase }, { on := 27, ground := Ground.phase }, { on := 28, ground := Ground.phase }, { on := 29, ground := Ground.phase }, { on := 30, ground := Ground.phase }], guard := none }) (by kernel_rfl) rfl (fun K hK => ?_)
  go_simp
  refine hK.out _ _ (fun h => absurd h (by decide +kernel)) ?_
  clear hK K
  try simp only [Act.put, List.setIfInBounds_toArray, List.set_cons_zero, List.set_cons_succ]
  refine Until.take (i := 34) (oi := { dst := some 33, op := Op.nilCheck (Operand.tmp 5), type := 0, pos := "state.go:196", after := #[{ on := 3, ground := Ground.data }, { on := 0, ground := Ground.phase }, { on := 1, ground := Ground.phase }, { on := 2, ground := Ground.phase }, { on := 3, ground := Ground.phase }, { on := 4, ground := Ground.phase }, { on := 5, ground := Ground.phase }, { on := 6, ground := Ground.phase }, { on := 7, ground := Ground.phase }, { on := 8, ground := Ground.phase }, { on := 9, ground := Ground.phase }, { on := 10, ground := Ground.phase }, { on := 11, ground := Ground.phase }, { on := 12, ground := Ground.phase }, { on := 13, ground := Ground.phase }, { on := 14, ground := Ground.phase }, { on := 15, ground := Ground.phase }, { on := 16, ground := Ground.phase }, { on := 17, ground := Ground.phase }, { on := 18, ground := Ground.phase }, { on := 19, ground := Ground.phase }, { on := 20, ground := Ground.phase }, { on := 21, ground := Ground.phase }, { on := 22, ground := Ground.phase }, { on := 23, ground := Ground.phase }, { on := 24, ground := Ground.phase }, { on := 25, ground := Ground.phase }, { on := 26, ground := Ground.phase }, { on := 27, ground := Ground.phase }, { on := 28, ground := Ground.phase }, { on := 29, ground := Ground.phase }, { on := 30, ground := Ground.phase }, { on := 31, ground := Ground.phase }, { on := 32, ground := Ground.phase }, { on := 33, ground := Ground.phase }], guard := none }) (v := .pointer (some ⟨g, 0, none⟩)) rfl (by kernel_rfl) (by kernel_rfl) (by kernel_rfl) (fun _ _ _ h => h) (by decide) (Or.inl ⟨by rfl, fun W _ => by go_simp⟩) (fun h => absurd h (by decide +kernel)) ?_
  simp only [Act.put, List.setIfInBounds_toArray, List.set_cons_zero, List.set_cons_succ]
  refine Until.take (i := 35) (oi := { dst := some 34, op := Op.fieldAddr 64 (Operand.tmp 33) 6, type := 0, pos := "state.go:196", after := #[{ on := 34, ground := Ground.data }, { on := 0, ground := Ground.phase }, { on := 1, ground := Ground.phase }, { on := 2, ground := Ground.phase }, { on := 3, ground := Ground.phase }, { on := 4, ground := Ground.phase }, { on := 5, ground := Ground.phase }, { on := 6, ground := Ground.phase }, { on := 7, ground := Ground.phase }, { on := 8, ground := Ground.phase }, { on := 9, ground := Ground.phase }, { on := 10, ground := Ground.phase }, { on := 11, ground := Ground.phase }, { on := 12, ground := Ground.phase }, { on := 13, ground := Ground.phase }, { on := 14, ground := Ground.phase }, { on := 15, ground := Ground.phase }, { on := 16, ground := Ground.phase }, { on := 17, ground := Ground.phase }, { on := 18, ground := Ground.phase }, { on := 19, ground := Ground.phase }, { on := 20, ground := Ground.phase }, { on := 21, ground := Ground.phase }, { on := 22, ground := Ground.phase }, { on := 23, ground := Ground.phase }, { on := 24, ground := Ground.phase }, { on := 25, ground := Ground.phase }, { on := 26, ground := Ground.phase }, { on := 27, ground := Ground.phase }, { on := 28, ground := Ground.phase }, { on := 29, ground := Ground.phase }, { on := 30, ground := Ground.phase }, { on := 31, ground := Ground.phase }, { on := 32, ground := Ground.phase }, { on := 33, ground := Ground.phase }], guard := none }) (v := .pointer (some ⟨g, 6, none⟩)) rfl (by kernel_rfl) (by kernel_rfl) (by kernel_rfl) (fun _ _ _ h => h) (by decide) (Or.inl ⟨by rfl, fun W _ => by go_simp⟩) (fun h => absurd h (by decide +kernel)) ?_
  simp only [Act.put, List.setIfInBounds_toArray, List.set_cons_zero, List.set_cons_succ]
  refine Until.one (i := 36) (o := { dst := none, op := Op.store 62 (Operand.tmp 34) (Operand.tmp 26), type := 0, pos := "state.go:196", after := #[{ on := 35, ground := Ground.data }, { on := 24, ground := Ground.data }, { on := 33, ground := Ground.chain }, { on := 0, ground := Ground.phase }, { on := 1, ground := Ground.phase }, { on := 2, ground := Ground.phase }, { on := 3, ground := Ground.phase }, { on := 4, ground := Ground.phase }, { on := 5, ground := Ground.phase }, { on := 6, ground := Ground.phase }, { on := 7, ground := Ground.phase }, { on := 8, ground := Ground.phase }, { on := 9, ground := Ground.phase }, { on := 10, ground := Ground.phase }, { on := 11, ground := Ground.phase }, { on := 12, ground := Ground.phase }, { on := 13, ground := Ground.phase }, { on := 14, ground := Ground.phase }, { on := 15, ground := Ground.phase }, { on := 16, ground := Ground.phase }, { on := 17, ground := Ground.phase }, { on := 18, ground := Ground.phase }, { on := 19, ground := Ground.phase }, { on := 20, ground := Ground.phase }, { on := 21, ground := Ground.phase }, { on := 22, ground := Ground.phase }, { on := 23, ground := Ground.phase }, { on := 24, ground := Ground.phase }, { on := 25, ground := Ground.phase }, { on := 26, ground := Ground.phase }, { on := 27, ground := Ground.phase }, { on := 28, ground := Ground.phase }, { on := 29, ground := Ground.phase }, { on := 30, ground := Ground.phase }, { on := 31, ground := Ground.phase }, { on := 32, ground := Ground.phase }, { on := 33, ground := Ground.phase }], guard := none }) (by kernel_rfl) rfl (fun K hK => ?_)
  go_simp
  refine hK.out _ _ (fun h => absurd h (by decide +kernel)) ?_
  clear hK K
  try simp only [Act.put, List.setIfInBounds_toArray, List.set_cons_zero, List.set_cons_succ]
  refine Until.done (by kernel_rfl) ?_ _
  go_end0
  exact ⟨rfl, va1, vc1, va2, vc2, va3, vc3, va4, vc4, W4, hq4.bx.below, hq4.mem, rfl⟩
end Go.Proofs.YtinijohmdljieaaGreatDoor
