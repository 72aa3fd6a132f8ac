/- package json: twin (a value in memory of its own). -/
import Derived.Test.YtinijohmdljieaaGreatDoorPB
namespace Go.Proofs.YtinijohmdljieaaGreatDoor
open Go.RowKit

/-- twin under way -/
structure JX (names : List ByteArray) (es : List (List D)) (w W : World) (x : List Value) (va1 : Option Addr) (vc1 M m g vc : Nat) (vs0 vs : List (List Value)) : Prop where
  bx : B2 77 6 w W x jsonZ
  nm : Mem true (In (w.heap.size + 2) M) W (strD names) (.slice va1 names.length vc1)
  em : EM 77 6 M w W es m g vc vs0 vs
  bM : w.heap.size + 2 ≤ M
/-- .. at its start: the items may be none -/
structure JY (names : List ByteArray) (es : List (List D)) (w W : World) (x : List Value) (va1 : Option Addr) (vc1 M : Nat) (va2 : Option Addr) (vc2 : Nat) (vs0 : List (List Value)) : Prop where
  bx : B2 77 6 w W x jsonZ
  nm : Mem true (In (w.heap.size + 2) M) W (strD names) (.slice va1 names.length vc1)
  own : Own W M 77 6 va2 vc2 es.length vs0.flatten
  bM : w.heap.size + 2 ≤ M
section
variable {names : List ByteArray} {es : List (List D)} {w W W' : World} {x : List Value} {va1 va2 : Option Addr} {vc1 vc2 M m g vc : Nat} {vs0 vs : List (List Value)}
theorem JY.start (h : PB 77 6 [(strD names, .slice va1 names.length vc1)] w W x jsonZ) (hO : Own W' W.heap.size 77 6 va2 vc2 es.length vs0.flatten) (hb : Below W.heap.size W W') : JY names es w W' x va1 vc1 W.heap.size va2 vc2 vs0 :=
  ⟨h.bx.call hb, ((h.ms _ (List.mem_cons_self ..)).weak fun _ hb2 hl => ⟨hb2, hl⟩).grow hb, hO, by have := h.bx.lt; omega⟩
theorem JY.setP (h : JY names es w W x va1 vc1 M va2 vc2 vs0) (j : Nat) (v : Value) : JY names es w (W.setCell ⟨w.heap.size, j, none⟩ v) (x.set j v) va1 vc1 M va2 vc2 vs0 :=
  ⟨h.bx.setP j v, h.nm.kept (fun q hq _ => Below.heap_setCell W ⟨w.heap.size, j, none⟩ v q (by have := hq.1; show q ≠ w.heap.size; omega)) (by simp [World.setCell]), h.own.setCell (a := ⟨w.heap.size, j, none⟩) (fun q hq => by have := (h.own.lt hq).1; have := h.bM; show q ≠ w.heap.size; omega) v, h.bM⟩
theorem JX.call (h : JX names es w W x va1 vc1 M m g vc vs0 vs) (hb : Below W.heap.size W W') : JX names es w W' x va1 vc1 M m g vc vs0 vs :=
  ⟨h.bx.call hb, h.nm.grow hb, h.em.kept (h.bx.below.trans (hb.mono h.bx.below.size)) (fun q _ hq => hb.block q hq) hb.size, h.bM⟩
theorem JX.drew (h : JX names es w W x va1 vc1 M m g vc vs0 vs) : JX names es w W.drew x va1 vc1 M m g vc vs0 vs := h.call (Below.refl _ _).drew
theorem JY.go (h : JY names es w W x va1 vc1 M (some ⟨g, 0, none⟩) vc2 vs0) (hl : vs0.length = es.length) (hw : ∀ v ∈ vs0, v.length = 6) : JX names es w W x va1 vc1 M 0 g vc2 vs0 vs0 :=
  ⟨h.bx, h.nm, EM.start h.own h.bx.below (by have := h.bM; omega) hl hw, h.bM⟩
theorem JX.done (h : JX names es w W x va1 vc1 M es.length g vc vs0 vs) (hj : ∀ e ∈ es, IsJson e) : PB 77 6 [(strD names, .slice va1 names.length vc1), (.list 6 es, .slice (some ⟨g, 0, none⟩) es.length vc)] w W x jsonZ :=
  ⟨h.bx, fun p hp => by
    have hM := h.bM
    simp only [List.mem_cons, List.not_mem_nil, or_false] at hp
    rcases hp with rfl | rfl
    · exact h.nm.weak fun b hb _ => hb.1
    · exact (h.em.done (by omega) fun e he => (hj e he).len).weak fun b hb _ => by have : M ≤ b := hb; show w.heap.size + 2 ≤ b; omega⟩
theorem JY.done (h : JY names [] w W x va1 vc1 M va2 vc2 []) : PB 77 6 [(strD names, .slice va1 names.length vc1), (.list 6 [], .slice va2 0 vc2)] w W x jsonZ :=
  ⟨h.bx, fun p hp => by
    have hM := h.bM
    simp only [List.mem_cons, List.not_mem_nil, or_false] at hp
    rcases hp with rfl | rfl
    · exact h.nm.weak fun b hb _ => hb.1
    · exact (memOwn (es := []) (vs := []) h.own (by omega) rfl (fun v hv => absurd hv (by simp)) (fun v hv => absurd hv (by simp)) (fun j h1 => absurd h1 (by simp))).weak fun b hb _ => by have : M ≤ b := hb; show w.heap.size + 2 ≤ b; omega⟩
theorem B2.far {E : TypeId} {k : Nat} {x y : List Value} (h : B2 E k w W x y) {a : Addr} (ha : w.heap.size + 2 ≤ a.block) (v : Value) : B2 E k w (W.setCell a v) x y :=
  ⟨h.p.setCell (fun g hg => by cases hg; omega) v, h.q.setCell (fun g hg => by cases hg; omega) v, h.below.setCell (by omega) v⟩
theorem flatten_set2 {α : Type} {k : Nat} (vs : List (List α)) (hw : ∀ v ∈ vs, v.length = k) (m i : Nat) (X : List α) (x : α) (h : m < vs.length) (hi : i < k) (hX : X.length = k) : (vs.set m X).flatten.set (m * k + i) x = (vs.set m (X.set i x)).flatten := by
  rw [flatten_set (vs.set m X) (fun v hv => ?_) m i x (by simpa using h) hi]
  · congr 1
    rw [List.set_set, List.getElem_set_self]
  · rcases List.mem_or_eq_of_mem_set hv with h1 | h1
    · exact hw v h1
    · rw [h1]; exact hX
theorem set_six {α : Type} (vs : List (List α)) (hw : ∀ v ∈ vs, v.length = 6) (m : Nat) (h : m < vs.length) (x0 x1 x2 x3 x4 x5 : α) :
    ((((((vs.flatten.set (m * 6) x0).set (m * 6 + 1) x1).set (m * 6 + 2) x2).set (m * 6 + 3) x3).set (m * 6 + 4) x4).set (m * 6 + 5) x5) = (vs.set m [x0, x1, x2, x3, x4, x5]).flatten := by
  have hl := hw _ (List.getElem_mem h)
  have e0 := flatten_set vs hw m 0 x0 h (by omega)
  rw [Nat.add_zero] at e0
  rw [e0, flatten_set2 vs hw m 1 _ x1 h (by omega) (by simpa using hl), flatten_set2 vs hw m 2 _ x2 h (by omega) (by simpa using hl), flatten_set2 vs hw m 3 _ x3 h (by omega) (by simpa using hl), flatten_set2 vs hw m 4 _ x4 h (by omega) (by simpa using hl), flatten_set2 vs hw m 5 _ x5 h (by omega) (by simpa using hl)]
  congr 2
  generalize vs[m] = l at hl
  match l, hl with
  | [_, _, _, _, _, _], _ => rfl
/-- an item more -/
theorem JX.next (h : JX names es w W x va1 vc1 M m g vc vs0 vs) (hm : m < es.length) {W1 : World} {x0 x1 x2 x3 x4 x5 : Value} (hb : Below W.heap.size W W1) (hn : MemL true (From W.heap.size) W1 es[m] [x0, x1, x2, x3, x4, x5]) :
    JX names es w ((((((W1.setCell ⟨g, m * 6, none⟩ x0).setCell ⟨g, m * 6 + 1, none⟩ x1).setCell ⟨g, m * 6 + 2, none⟩ x2).setCell ⟨g, m * 6 + 3, none⟩ x3).setCell ⟨g, m * 6 + 4, none⟩ x4).setCell ⟨g, m * 6 + 5, none⟩ x5) x va1 vc1 M (m + 1) g vc vs0 (vs.set m [x0, x1, x2, x3, x4, x5]) := by
  obtain ⟨hgb, hgl⟩ := h.em.lt
  have hM := h.bM
  have hB := (((((((h.bx.call hb).far (a := ⟨g, m * 6, none⟩) (by show w.heap.size + 2 ≤ g; omega) x0).far (a := ⟨g, m * 6 + 1, none⟩) (by show w.heap.size + 2 ≤ g; omega) x1).far (a := ⟨g, m * 6 + 2, none⟩) (by show w.heap.size + 2 ≤ g; omega) x2).far (a := ⟨g, m * 6 + 3, none⟩) (by show w.heap.size + 2 ≤ g; omega) x3).far (a := ⟨g, m * 6 + 4, none⟩) (by show w.heap.size + 2 ≤ g; omega) x4).far (a := ⟨g, m * 6 + 5, none⟩) (by show w.heap.size + 2 ≤ g; omega) x5)
  have hfar : ∀ q, q ≠ g → ((((((W1.setCell ⟨g, m * 6, none⟩ x0).setCell ⟨g, m * 6 + 1, none⟩ x1).setCell ⟨g, m * 6 + 2, none⟩ x2).setCell ⟨g, m * 6 + 3, none⟩ x3).setCell ⟨g, m * 6 + 4, none⟩ x4).setCell ⟨g, m * 6 + 5, none⟩ x5).heap[q]? = W1.heap[q]? := fun q hq => by
    rw [Below.heap_setCell _ ⟨g, m * 6 + 5, none⟩ _ q hq, Below.heap_setCell _ ⟨g, m * 6 + 4, none⟩ _ q hq, Below.heap_setCell _ ⟨g, m * 6 + 3, none⟩ _ q hq, Below.heap_setCell _ ⟨g, m * 6 + 2, none⟩ _ q hq, Below.heap_setCell _ ⟨g, m * 6 + 1, none⟩ _ q hq, Below.heap_setCell _ ⟨g, m * 6, none⟩ _ q hq]
  refine ⟨hB, (h.nm.grow hb).kept (fun q hq _ => hfar q (by have := hq.2; omega)) (by simp [World.setCell]), ?_, hM⟩
  refine h.em.next hm rfl hb hn ?_ hB.below (fun q _ hq => hfar q hq) (by simp [World.setCell])
  have ho := ((((((h.em.own.keptB (w' := W1) fun q hq => hb.block q (h.em.own.lt hq).2).set (j := m * 6) x0).set (j := m * 6 + 1) x1).set (j := m * 6 + 2) x2).set (j := m * 6 + 3) x3).set (j := m * 6 + 4) x4).set (j := m * 6 + 5) x5
  rw [set_six vs h.em.wid m (by rw [h.em.len]; exact hm)] at ho
  exact ho
end
theorem ret_jown {w W : World} {a : Act} {x : List Value} {k : Int} {b : Bool} {i : Int} {t : ByteArray} {u v : Value} {R : Ending → World → Prop} (h : B2 77 6 w W x (jsonC k b i t u v)) (hp : a.tmps.getD 2 undef = .pointer (some ⟨w.heap.size + 1, 0, none⟩)) (hd : a.defers = [])
    (hR : R (.returned (.agg (jsonC k b i t u v).toArray)) W) : bodyPost Tryz.prog Tryz.f133 R .ret a W := by
  refine bodyPost_ret ?_ hd hR
  have hp' : a.tmps[2]?.getD undef = .pointer (some ⟨w.heap.size + 1, 0, none⟩) := by simpa using hp
  simp [results, Tryz.results133, hp', go_sem, h.cq 0 _ rfl, h.cq 1 _ rfl, h.cq 2 _ rfl, h.cq 3 _ rfl, h.cq 4 _ rfl, h.cq 5 _ rfl]
set_option maxHeartbeats 8000000 in
set_option maxRecDepth 100000 in
theorem jsonOwn {ds : List D} (h : IsJson ds) : ∀ (us : List Value) (w : World), MemL false (From 0) w ds us → Calls Tryz.prog 133 #[.agg us.toArray] w (JEnd ds w) := by
  induction h with
  | mk k b i0 t names es hn he hj ih =>
    intro us w hm
    obtain ⟨a, c, a2, c2, b2, o2, vs0, rfl, hnm, hC⟩ := json_open hm
    have h1 : ∀ v ∈ vs0, ∀ u ∈ v, u.oneCell' = true := by
      intro v hv u hu
      obtain ⟨j, hj', rfl⟩ := List.mem_iff_getElem.1 hv
      have hje : j < es.length := by rw [← hC.len]; exact hj'
      obtain ⟨xk, xb, xi, xt, xn, xe, xa, xc, xa2, xc2, -, hus, -⟩ := IsJson.cells (hj _ (List.getElem_mem hje)) (hC.row j hje hj')
      rw [hus] at hu
      simp only [jsonC, List.mem_cons, List.not_mem_nil, or_false] at hu
      rcases hu with rfl | rfl | rfl | rfl | rfl | rfl <;> rfl
    have hw0 : ∀ v ∈ vs0, v.length = 6 := by
      intro v hv
      obtain ⟨j, hj', rfl⟩ := List.mem_iff_getElem.1 hv
      have hje : j < es.length := by rw [← hC.len]; exact hj'
      rw [(hC.row j hje hj').1]
      exact hC.wid _ (List.getElem_mem hje)
    have HC1 := Lib.hid (fun W (hb : Below w.heap.size w W) => cloneTexts a c names W hn (hnm.grow hb))
    have HC2 := Lib.hid (fun W (hb : Below w.heap.size w W) => clone_rows Tryz.cloneJson elemJson c2 he (by omega) (hC.below hb) h1)
    have HROW := Lib.hid hC.row
    have HV0 := Lib.hid hC.len
    have HW0 := Lib.hid hw0
    have HJA := Lib.hid hj
    have HIA := Lib.hid ih
    have HLE := Lib.hid he
    have HDS : Hid (∀ W us, MemL true (From w.heap.size) W [.atom (.int .u8 k), .atom (.bool b), .atom (.int .i64 i0), .atom (.string t), strD names, .list 6 es] us → Below w.heap.size w W → JEnd [.atom (.int .u8 k), .atom (.bool b), .atom (.int .i64 i0), .atom (.string t), strD names, .list 6 es] w (.returned (.agg us.toArray)) W) := fun W us h1 h2 => ⟨us, rfl, h1, h2⟩
    generalize JEnd [.atom (.int .u8 k), .atom (.bool b), .atom (.int .i64 i0), .atom (.string t), strD names, .list 6 es] w = R at HDS ⊢
    have HP0 := Lib.hid (PB.start (B2.start w 77 6 #[.int .u8 k, .bool b, .int .i64 i0, .string t, .slice a names.length c, .slice a2 es.length c2] #[.int .u8 0, .bool false, .int .i64 0, .string ⟨#[]⟩, .slice none 0 0, .slice none 0 0] rfl rfl))
    clear hm hnm hC hj ih hn he h1 hw0
    go_enter Tryz.func133, Tryz.ntmps133
    go_upto_region 1 with fail
    revert HP0
    generalize ((w.alloc (.cells #[.int .u8 k, .bool b, .int .i64 i0, .string t, .slice a names.length c, .slice a2 es.length c2] 77)).alloc (.cells #[.int .u8 0, .bool false, .int .i64 0, .string ⟨#[]⟩, .slice none 0 0, .slice none 0 0] 77)) = W0
    intro HP0
    have hq0 := HP0.out.drew
    clear HP0
    refine Until.start (S := fun W => B2 77 6 w W (jsonC k b i0 t (.slice a names.length c) (.slice a2 es.length c2)) jsonZ) (st := 7) (by kernel_rfl) ?_
    have hH := hq0.bx
    refine Until.take (i := 0) (oi := { dst := some 4, op := Op.fieldAddr 77 (Operand.tmp 1) 4, type := 0, pos := "json.go:423", after := #[], guard := none }) (v := .pointer (some ⟨w.heap.size, 4, none⟩)) rfl (by kernel_rfl) (by kernel_rfl) (by kernel_rfl) (fun _ _ _ h => h) (by decide) (Or.inl ⟨by rfl, fun W _ => by go_simp⟩) (fun _ => hH) ?_
    simp only [Act.put, List.setIfInBounds_toArray, List.set_cons_zero, List.set_cons_succ]
    refine Until.load (i := 1) (oi := { dst := some 5, op := Op.load 23 (Operand.tmp 4), type := 23, pos := "json.go:423", after := #[{ on := 0, ground := Ground.data }], guard := none }) (v := .slice a names.length c) rfl (by kernel_rfl) (by kernel_rfl) (by kernel_rfl) (fun _ _ _ h => h) (by decide) (by kernel_rfl) (by kernel_rfl) (Or.inl ⟨by rfl, fun W hS => by have k := hS.cp 4 _ rfl; go_simp⟩) hH ?_
    simp only [Act.put, List.setIfInBounds_toArray, List.set_cons_zero, List.set_cons_succ]
    refine Until.take (i := 3) (oi := { dst := some 7, op := Op.fieldAddr 77 (Operand.tmp 1) 5, type := 0, pos := "json.go:423", after := #[], guard := none }) (v := .pointer (some ⟨w.heap.size, 5, none⟩)) rfl (by kernel_rfl) (by kernel_rfl) (by kernel_rfl) (fun _ _ _ h => h) (by decide) (Or.inl ⟨by rfl, fun W _ => by go_simp⟩) (fun _ => hH) ?_
    simp only [Act.put, List.setIfInBounds_toArray, List.set_cons_zero, List.set_cons_succ]
    refine Until.load (i := 4) (oi := { dst := some 8, op := Op.load 60 (Operand.tmp 7), type := 60, pos := "json.go:423", after := #[{ on := 3, ground := Ground.data }], guard := none }) (v := .slice a2 es.length c2) rfl (by kernel_rfl) (by kernel_rfl) (by kernel_rfl) (fun _ _ _ h => h) (by decide) (by kernel_rfl) (by kernel_rfl) (Or.inl ⟨by rfl, fun W hS => by have k := hS.cp 5 _ rfl; go_simp⟩) hH ?_
    simp only [Act.put, List.setIfInBounds_toArray, List.set_cons_zero, List.set_cons_succ]
    refine Until.one (i := 2) (o := { dst := some 6, op := Op.call { callee := Callee.value (Operand.func 41), args := #[Operand.tmp 5], argTypes := #[23] }, type := 23, pos := "json.go:423", after := #[{ on := 1, ground := Ground.data }], guard := none }) (by kernel_rfl) rfl (fun K hK => ?_)
    go_simp
    go_at_call 41
    refine (HC1.out _ hH.below).mono ?_
    rintro e W1 ⟨va1, vc1, rfl, hm1, hb1⟩
    have hq1 := hq0.made hb1 hm1
    clear hb1 hm1 hq0 HC1
    have hH' := hq1.bx
    go_wp2_with fail
    refine hK.out _ _ (fun _ => hH') ?_
    clear hK K hH
    try simp only [Act.put, List.setIfInBounds_toArray, List.set_cons_zero, List.set_cons_succ]
    have hH := hH'
    clear hH'
    refine Until.take (i := 6) (oi := { dst := some 10, op := Op.fieldAddr 77 (Operand.tmp 1) 4, type := 0, pos := "json.go:423", after := #[{ on := 0, ground := Ground.phase }, { on := 1, ground := Ground.phase }, { on := 2, ground := Ground.phase }, { on := 3, ground := Ground.phase }, { on := 4, ground := Ground.phase }, { on := 5, ground := Ground.textOnly Departure.lateStoresUnsure }], guard := none }) (v := .pointer (some ⟨w.heap.size, 4, none⟩)) rfl (by kernel_rfl) (by kernel_rfl) (by kernel_rfl) (fun _ _ _ h => h) (by decide) (Or.inl ⟨by rfl, fun W _ => by go_simp⟩) (fun _ => hH) ?_
    simp only [Act.put, List.setIfInBounds_toArray, List.set_cons_zero, List.set_cons_succ]
    refine Until.one (i := 5) (o := { dst := some 9, op := Op.call { callee := Callee.value (Operand.func 170), args := #[Operand.tmp 8], argTypes := #[60] }, type := 60, pos := "json.go:423", after := #[{ on := 4, ground := Ground.data }, { on := 2, ground := Ground.chain }], guard := none }) (by kernel_rfl) rfl (fun K hK => ?_)
    go_simp
    go_at_call 170
    refine (HC2.out _ hH.below).mono ?_
    rintro e W2 ⟨va2, vc2, rfl, hO2, hb2⟩
    have hq2 := JY.start hq1 hO2 hb2
    clear hb2 hO2 hq1 HC2
    have hH' := hq2.bx
    go_wp2_with fail
    refine hK.out _ _ (fun _ => hH') ?_
    clear hK K hH
    try simp only [Act.put, List.setIfInBounds_toArray, List.set_cons_zero, List.set_cons_succ]
    have hH := hH'
    clear hH'
    refine Until.one (i := 7) (o := { dst := none, op := Op.store 23 (Operand.tmp 10) (Operand.tmp 6), type := 0, pos := "json.go:423", after := #[{ on := 6, ground := Ground.data }, { on := 2, ground := Ground.data }, { on := 5, ground := Ground.chain }, { on := 0, ground := Ground.phase }, { on := 1, ground := Ground.phase }, { on := 2, ground := Ground.phase }, { on := 3, ground := Ground.phase }, { on := 4, ground := Ground.phase }, { on := 5, ground := Ground.textOnly Departure.lateStoresUnsure }], guard := none }) (by kernel_rfl) rfl (fun K hK => ?_)
    have c := hq2.bx.cp 4 _ rfl
    have f := hq2.bx.fp 4
    go_simp
    refine hK.out _ _ (fun h => absurd h (by decide +kernel)) ?_
    clear hK K
    try simp only [Act.put, List.setIfInBounds_toArray, List.set_cons_zero, List.set_cons_succ]
    have hq3 := hq2.setP 4 (.slice va1 names.length vc1)
    clear c f hq2
    refine Until.take (i := 8) (oi := { dst := some 11, op := Op.fieldAddr 77 (Operand.tmp 1) 5, type := 0, pos := "json.go:423", after := #[{ on := 0, ground := Ground.phase }, { on := 1, ground := Ground.phase }, { on := 2, ground := Ground.phase }, { on := 3, ground := Ground.phase }, { on := 4, ground := Ground.phase }, { on := 5, ground := Ground.phase }, { on := 6, ground := Ground.phase }, { on := 7, ground := Ground.phase }], guard := none }) (v := .pointer (some ⟨w.heap.size, 5, none⟩)) rfl (by kernel_rfl) (by kernel_rfl) (by kernel_rfl) (fun _ _ _ h => h) (by decide) (Or.inl ⟨by rfl, fun W _ => by go_simp⟩) (fun h => absurd h (by decide +kernel)) ?_
    simp only [Act.put, List.setIfInBounds_toArray, List.set_cons_zero, List.set_cons_succ]
    refine Until.one (i := 9) (o := { dst := none, op := Op.store 60 (Operand.tmp 11) (Operand.tmp 9), type := 0, pos := "json.go:423", after := #[{ on := 8, ground := Ground.data }, { on := 5, ground := Ground.data }, { on := 7, ground := Ground.chain }, { on := 0, ground := Ground.phase }, { on := 1, ground := Ground.phase }, { on := 2, ground := Ground.phase }, { on := 3, ground := Ground.phase }, { on := 4, ground := Ground.phase }, { on := 5, ground := Ground.phase }, { on := 6, ground := Ground.phase }, { on := 7, ground := Ground.phase }], guard := none }) (by kernel_rfl) rfl (fun K hK => ?_)
    have c := hq3.bx.cp 5 _ rfl
    have f := hq3.bx.fp 5
    go_simp
    refine hK.out _ _ (fun h => absurd h (by decide +kernel)) ?_
    clear hK K
    try simp only [Act.put, List.setIfInBounds_toArray, List.set_cons_zero, List.set_cons_succ]
    have hq4 := hq3.setP 5 (.slice va2 es.length vc2)
    clear c f hq3
    refine Until.done (by kernel_rfl) ?_ _
    have HX := Lib.hid hq4
    clear hq4 hH
    revert HX
    generalize ((W2.setCell ⟨w.heap.size, 4, none⟩ (.slice va1 names.length vc1)).setCell ⟨w.heap.size, 5, none⟩ (.slice va2 es.length vc2)) = W3
    intro HX
    generalize W1.heap.size = M at HX
    rcases Nat.eq_zero_or_pos es.length with h0 | h0
    · obtain rfl : es = [] := List.eq_nil_of_length_eq_zero h0
      obtain rfl : vs0 = [] := List.eq_nil_of_length_eq_zero HV0.out
      have k5 := HX.out.bx.cp 5 _ rfl
      clear HROW HV0 HW0 HJA HIA HLE h0
      go_wp2_with fail
      go_loopw [15] (fun i wr => i = .int .i64 0 ∧ wr = W3) (fun _ _ => 0)
      case atStart => exact ⟨rfl, rfl⟩
      case round =>
        obtain ⟨rfl, rfl⟩ := hrel
        have h7 := HX.out.done
        clear HX
        have HZ := Lib.hid h7
        clear h7
        have r0 := HZ.out.bx.cp 0 _ rfl
        have r1 := HZ.out.bx.cp 1 _ rfl
        have r2 := HZ.out.bx.cp 2 _ rfl
        have r3 := HZ.out.bx.cp 3 _ rfl
        have r4 := HZ.out.bx.cp 4 _ rfl
        have r5 := HZ.out.bx.cp 5 _ rfl
        have q0 := HZ.out.bx.cq 0 _ rfl
        have q1 := HZ.out.bx.cq 1 _ rfl
        have q2 := HZ.out.bx.cq 2 _ rfl
        have q3 := HZ.out.bx.cq 3 _ rfl
        have q4 := HZ.out.bx.cq 4 _ rfl
        have q5 := HZ.out.bx.cq 5 _ rfl
        have hf := HZ.out.bx.fq
        go_wp2_with fail
        have h8 := (((((HZ.out.setQ 0 (.int .u8 k)).setQ 1 (.bool b)).setQ 2 (.int .i64 i0)).setQ 3 (.string t)).setQ 4 (.slice va1 names.length vc1)).setQ 5 (.slice va2 0 vc2)
        have hfr := h8.new
        exact ret_jown (k := k) (b := b) (i := i0) (t := t) (u := .slice va1 names.length vc1) (v := .slice va2 0 vc2) h8.bx rfl rfl (HDS.out _ _ (.cons (.atom _) (.cons (.atom _) (.cons (.atom _) (.cons (.atom _) (.cons (hfr (strD names, .slice va1 names.length vc1) (by simp)) (.cons (hfr (.list 6 [], .slice va2 0 vc2) (by simp)) (MemL.nil _ _ _))))))) h8.bx.below)
    · obtain ⟨g, rfl⟩ : ∃ g, va2 = some ⟨g, 0, none⟩ := by
        rcases HX.out.own.block with ⟨_, h1, _⟩ | ⟨g, h1, _⟩
        · omega
        · exact ⟨g, h1⟩
      have HG := Lib.hid (HX.out.go HV0.out HW0.out)
      clear HX
      have k5 := HG.out.bx.cp 5 _ rfl
      go_wp2_with fail
      clear k5
      go_loopw [15] (fun i wr => ∃ (m : Nat) (vs : List (List Value)), m ≤ es.length ∧ i = .int .i64 (m : Int) ∧ Hid (JX names es w wr (jsonC k b i0 t (.slice va1 names.length vc1) (.slice (some ⟨g, 0, none⟩) es.length vc2)) va1 vc1 M m g vc2 vs0 vs)) (fun i _ => es.length - (intOf i).toNat)
      case atStart => exact ⟨0, vs0, Nat.zero_le _, rfl, HG.out⟩
      case round =>
        clear HG
        obtain ⟨m, vs, hm, rfl, HX⟩ := hrel
        by_cases hml : m < es.length
        · have i1 : (m : Int) < (es.length : Int) := by omega
          have i2 : (0 : Int) ≤ (m : Int) := by omega
          have hmv0 : m < vs0.length := by rw [HV0.out]; exact hml
          have hrow := HROW.out m hml hmv0
          have hj1 := HJA.out _ (List.getElem_mem hml)
          obtain ⟨jk, jb, ji, jt, jn, je, ja, jc, ja2, jc2, -, hvs, -⟩ := IsJson.cells hj1 hrow
          have HIH := Lib.hid (fun W (hb : Below w.heap.size w W) => HIA.out _ (List.getElem_mem hml) _ W (hrow.grow hb))
          rw [hvs] at HIH
          have HCS : Hid (∀ W, JX names es w W (jsonC k b i0 t (.slice va1 names.length vc1) (.slice (some ⟨g, 0, none⟩) es.length vc2)) va1 vc1 M m g vc2 vs0 vs → W.cell? ⟨g, m * 6, none⟩ = some (.int .u8 jk) ∧ W.cell? ⟨g, m * 6 + 1, none⟩ = some (.bool jb) ∧ W.cell? ⟨g, m * 6 + 2, none⟩ = some (.int .i64 ji) ∧ W.cell? ⟨g, m * 6 + 3, none⟩ = some (.string jt) ∧ W.cell? ⟨g, m * 6 + 4, none⟩ = some (.slice ja jn.length jc) ∧ W.cell? ⟨g, m * 6 + 5, none⟩ = some (.slice ja2 je.length jc2)) := fun W hS =>
            ⟨hS.em.cell hml hmv0 0 (by omega) _ (by rw [hvs]; rfl), hS.em.cell hml hmv0 1 (by omega) _ (by rw [hvs]; rfl), hS.em.cell hml hmv0 2 (by omega) _ (by rw [hvs]; rfl), hS.em.cell hml hmv0 3 (by omega) _ (by rw [hvs]; rfl), hS.em.cell hml hmv0 4 (by omega) _ (by rw [hvs]; rfl), hS.em.cell hml hmv0 5 (by omega) _ (by rw [hvs]; rfl)⟩
          have HJ := Lib.hid hj1
          have HMM := Lib.hid hml
          clear hrow hj1 hvs
          go_upto_region 5 with fail
          refine Until.start (S := fun W => JX names es w W (jsonC k b i0 t (.slice va1 names.length vc1) (.slice (some ⟨g, 0, none⟩) es.length vc2)) va1 vc1 M m g vc2 vs0 vs) (st := 10) (by kernel_rfl) ?_
          have hH := HX.out.drew
          refine Until.take (i := 0) (oi := { dst := some 18, op := Op.fieldAddr 77 (Operand.tmp 1) 5, type := 0, pos := "json.go:425", after := #[], guard := none }) (v := .pointer (some ⟨w.heap.size, 5, none⟩)) rfl (by kernel_rfl) (by kernel_rfl) (by kernel_rfl) (fun _ _ _ h => h) (by decide) (Or.inl ⟨by rfl, fun W _ => by go_simp⟩) (fun _ => hH) ?_
          simp only [Act.put, List.setIfInBounds_toArray, List.set_cons_zero, List.set_cons_succ]
          refine Until.load (i := 1) (oi := { dst := some 19, op := Op.load 60 (Operand.tmp 18), type := 60, pos := "json.go:425", after := #[{ on := 0, ground := Ground.data }], guard := none }) (v := .slice (some ⟨g, 0, none⟩) es.length vc2) rfl (by kernel_rfl) (by kernel_rfl) (by kernel_rfl) (fun _ _ _ h => h) (by decide) (by kernel_rfl) (by kernel_rfl) (Or.inl ⟨by rfl, fun W hS => by have k := hS.bx.cp 5 _ rfl; go_simp⟩) hH ?_
          simp only [Act.put, List.setIfInBounds_toArray, List.set_cons_zero, List.set_cons_succ]
          refine Until.take (i := 2) (oi := { dst := some 20, op := Op.move (Operand.tmp 3), type := 3, pos := "json.go:425", after := #[], guard := none }) (v := .int .i64 (m : Int)) rfl (by kernel_rfl) (by kernel_rfl) (by kernel_rfl) (fun _ _ _ h => h) (by decide) (Or.inl ⟨by rfl, fun W _ => by go_simp⟩) (fun _ => hH) ?_
          simp only [Act.put, List.setIfInBounds_toArray, List.set_cons_zero, List.set_cons_succ]
          refine Until.take (i := 3) (oi := { dst := some 21, op := Op.fieldAddr 77 (Operand.tmp 1) 5, type := 0, pos := "json.go:425", after := #[], guard := none }) (v := .pointer (some ⟨w.heap.size, 5, none⟩)) rfl (by kernel_rfl) (by kernel_rfl) (by kernel_rfl) (fun _ _ _ h => h) (by decide) (Or.inl ⟨by rfl, fun W _ => by go_simp⟩) (fun _ => hH) ?_
          simp only [Act.put, List.setIfInBounds_toArray, List.set_cons_zero, List.set_cons_succ]
          refine Until.load (i := 4) (oi := { dst := some 22, op := Op.load 60 (Operand.tmp 21), type := 60, pos := "json.go:425", after := #[{ on := 3, ground := Ground.data }], guard := none }) (v := .slice (some ⟨g, 0, none⟩) es.length vc2) rfl (by kernel_rfl) (by kernel_rfl) (by kernel_rfl) (fun _ _ _ h => h) (by decide) (by kernel_rfl) (by kernel_rfl) (Or.inl ⟨by rfl, fun W hS => by have k := hS.bx.cp 5 _ rfl; go_simp⟩) hH ?_
          simp only [Act.put, List.setIfInBounds_toArray, List.set_cons_zero, List.set_cons_succ]
          refine Until.take (i := 5) (oi := { dst := some 23, op := Op.move (Operand.tmp 3), type := 3, pos := "json.go:425", after := #[], guard := none }) (v := .int .i64 (m : Int)) rfl (by kernel_rfl) (by kernel_rfl) (by kernel_rfl) (fun _ _ _ h => h) (by decide) (Or.inl ⟨by rfl, fun W _ => by go_simp⟩) (fun _ => hH) ?_
          simp only [Act.put, List.setIfInBounds_toArray, List.set_cons_zero, List.set_cons_succ]
          refine Until.take (i := 6) (oi := { dst := some 24, op := Op.indexAddr 60 (Operand.tmp 22) (Operand.tmp 23), type := 0, pos := "json.go:425", after := #[{ on := 4, ground := Ground.data }, { on := 5, ground := Ground.data }], guard := none }) (v := .pointer (some ⟨g, m * 6, none⟩)) rfl (by kernel_rfl) (by kernel_rfl) (by kernel_rfl) (fun _ _ _ h => h) (by decide) (Or.inl ⟨by rfl, fun W _ => by go_simp⟩) (fun _ => hH) ?_
          simp only [Act.put, List.setIfInBounds_toArray, List.set_cons_zero, List.set_cons_succ]
          refine Until.load (i := 7) (oi := { dst := some 25, op := Op.load 77 (Operand.tmp 24), type := 77, pos := "json.go:425", after := #[{ on := 6, ground := Ground.data }], guard := none }) (v := .agg #[.int .u8 jk, .bool jb, .int .i64 ji, .string jt, .slice ja jn.length jc, .slice ja2 je.length jc2]) rfl (by kernel_rfl) (by kernel_rfl) (by kernel_rfl) (fun _ _ _ h => h) (by decide) (by kernel_rfl) (by kernel_rfl) (Or.inl ⟨by rfl, fun W hS => by obtain ⟨k0, k1, k2, k3, k4, k5⟩ := HCS.out W hS; go_simp⟩) hH ?_
          simp only [Act.put, List.setIfInBounds_toArray, List.set_cons_zero, List.set_cons_succ]
          refine Until.one (i := 8) (o := { dst := some 26, op := Op.call { callee := Callee.value (Operand.func 133), args := #[Operand.tmp 25], argTypes := #[77] }, type := 77, pos := "json.go:425", after := #[{ on := 7, ground := Ground.data }], guard := none }) (by kernel_rfl) rfl (fun K hK => ?_)
          go_simp
          go_at_call 133
          refine (HIH.out _ hH.bx.below).mono ?_
          rintro e W' ⟨us, rfl, hm', hb'⟩
          obtain ⟨xk, xb, xi, xt, xn, xe, xa, xc, xa2, xc2, -, hus, -⟩ := IsJson.cells HJ.out hm'
          subst hus
          have HM' := Lib.hid hm'
          have HB' := Lib.hid hb'
          have hH' := hH.call hb'
          clear hm' hb'
          have HH0 := Lib.hid hH
          go_wp2_with fail
          refine hK.out _ _ (fun _ => hH') ?_
          clear hK K hH
          try simp only [Act.put, List.setIfInBounds_toArray, List.set_cons_zero, List.set_cons_succ]
          have hH := hH'
          clear hH'
          refine Until.take (i := 9) (oi := { dst := some 27, op := Op.indexAddr 60 (Operand.tmp 19) (Operand.tmp 20), type := 0, pos := "json.go:425", after := #[{ on := 1, ground := Ground.data }, { on := 2, ground := Ground.data }, { on := 0, ground := Ground.phase }, { on := 1, ground := Ground.phase }, { on := 2, ground := Ground.phase }, { on := 3, ground := Ground.phase }, { on := 4, ground := Ground.phase }, { on := 5, ground := Ground.phase }, { on := 6, ground := Ground.phase }, { on := 7, ground := Ground.phase }, { on := 8, ground := Ground.phase }], guard := none }) (v := .pointer (some ⟨g, m * 6, none⟩)) rfl (by kernel_rfl) (by kernel_rfl) (by kernel_rfl) (fun _ _ _ h => h) (by decide) (Or.inl ⟨by rfl, fun W _ => by go_simp⟩) (fun _ => hH) ?_
          simp only [Act.put, List.setIfInBounds_toArray, List.set_cons_zero, List.set_cons_succ]
          refine Until.one (i := 10) (o := { dst := none, op := Op.store 77 (Operand.tmp 27) (Operand.tmp 26), type := 0, pos := "json.go:425", after := #[{ on := 9, ground := Ground.data }, { on := 8, ground := Ground.data }, { on := 8, ground := Ground.chain }, { on := 0, ground := Ground.phase }, { on := 1, ground := Ground.phase }, { on := 2, ground := Ground.phase }, { on := 3, ground := Ground.phase }, { on := 4, ground := Ground.phase }, { on := 5, ground := Ground.phase }, { on := 6, ground := Ground.phase }, { on := 7, ground := Ground.phase }, { on := 8, ground := Ground.phase }], guard := none }) (by kernel_rfl) rfl (fun K hK => ?_)
          obtain ⟨k0, k1, k2, k3, k4, k5⟩ := HCS.out _ hH
          have kf := fun j => hH.em.frz HMM.out (by omega) j
          go_simp
          refine hK.out _ _ (fun h => absurd h (by decide +kernel)) ?_
          clear hK K
          try simp only [Act.put, List.setIfInBounds_toArray, List.set_cons_zero, List.set_cons_succ]
          refine Until.done (by kernel_rfl) ?_ _
          have H9 := Lib.hid (HH0.out.next HMM.out HB'.out HM'.out)
          clear HH0 HB' HM' hH
          have wr1 : IntKind.i64.wrap ((m : Int) + 1) = (m : Int) + 1 := wrap_i64 (by omega) (by have := HLE.out; omega)
          go_wp2_with fail
          exact ⟨⟨m + 1, _, by omega, rfl, H9⟩, by simp only [intOf]; omega⟩
        · obtain rfl : m = es.length := by omega
          have i1 : ¬ (es.length : Int) < (es.length : Int) := by omega
          have HZ := Lib.hid (HX.out.done HJA.out)
          clear HX HROW HIA
          have r0 := HZ.out.bx.cp 0 _ rfl
          have r1 := HZ.out.bx.cp 1 _ rfl
          have r2 := HZ.out.bx.cp 2 _ rfl
          have r3 := HZ.out.bx.cp 3 _ rfl
          have r4 := HZ.out.bx.cp 4 _ rfl
          have r5 := HZ.out.bx.cp 5 _ rfl
          have q0 := HZ.out.bx.cq 0 _ rfl
          have q1 := HZ.out.bx.cq 1 _ rfl
          have q2 := HZ.out.bx.cq 2 _ rfl
          have q3 := HZ.out.bx.cq 3 _ rfl
          have q4 := HZ.out.bx.cq 4 _ rfl
          have q5 := HZ.out.bx.cq 5 _ rfl
          have hf := HZ.out.bx.fq
          go_wp2_with fail
          have h8 := (((((HZ.out.setQ 0 (.int .u8 k)).setQ 1 (.bool b)).setQ 2 (.int .i64 i0)).setQ 3 (.string t)).setQ 4 (.slice va1 names.length vc1)).setQ 5 (.slice (some ⟨g, 0, none⟩) es.length vc2)
          have hfr := h8.new
          exact ret_jown (k := k) (b := b) (i := i0) (t := t) (u := .slice va1 names.length vc1) (v := .slice (some ⟨g, 0, none⟩) es.length vc2) h8.bx rfl rfl (HDS.out _ _ (.cons (.atom _) (.cons (.atom _) (.cons (.atom _) (.cons (.atom _) (.cons (hfr (strD names, .slice va1 names.length vc1) (by simp)) (.cons (hfr (.list 6 es, .slice (some ⟨g, 0, none⟩) es.length vc2) (by simp)) (MemL.nil _ _ _))))))) h8.bx.below)
end Go.Proofs.YtinijohmdljieaaGreatDoor
