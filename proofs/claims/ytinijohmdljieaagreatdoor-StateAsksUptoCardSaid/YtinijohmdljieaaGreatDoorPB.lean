/- Two boxes that are written, and fields that are new; package state: twin of a model. -/
import Derived.Test.YtinijohmdljieaaGreatDoorH11
namespace Go.Proofs.YtinijohmdljieaaGreatDoor
open Go.RowKit

structure PB (E : TypeId) (k : Nat) (fs : List (D × Value)) (w W : World) (x y : List Value) : Prop where
  bx : B2 E k w W x y
  ms : ∀ p ∈ fs, Mem true (From (w.heap.size + 2)) W p.1 p.2
section
variable {E : TypeId} {k : Nat} {fs : List (D × Value)} {w W W' : World} {x y : List Value}
theorem B2.fp (h : B2 E k w W x y) (j : Nat) : W.frozen? ⟨w.heap.size, j, none⟩ = false := h.p.frozenAt j
theorem B2.fq (h : B2 E k w W x y) (j : Nat) : W.frozen? ⟨w.heap.size + 1, j, none⟩ = false := h.q.frozenAt j
theorem B2.setP (h : B2 E k w W x y) (j : Nat) (v : Value) : B2 E k w (W.setCell ⟨w.heap.size, j, none⟩ v) (x.set j v) y :=
  ⟨h.p.set v, h.q.setCell (a := ⟨w.heap.size, j, none⟩) (fun g hg => by cases hg; show _ ≠ w.heap.size; omega) v, h.below.setCell (p := ⟨w.heap.size, j, none⟩) (Nat.le_refl _) v⟩
theorem B2.setQ (h : B2 E k w W x y) (j : Nat) (v : Value) : B2 E k w (W.setCell ⟨w.heap.size + 1, j, none⟩ v) x (y.set j v) :=
  ⟨h.p.setCell (a := ⟨w.heap.size + 1, j, none⟩) (fun g hg => by cases hg; show _ ≠ w.heap.size + 1; omega) v, h.q.set v, h.below.setCell (p := ⟨w.heap.size + 1, j, none⟩) (by show w.heap.size ≤ w.heap.size + 1; omega) v⟩
theorem PB.start (h : B2 E k w W x y) : PB E k [] w W x y := ⟨h, fun p hp => absurd hp (by simp)⟩
theorem PB.call (h : PB E k fs w W x y) (hb : Below W.heap.size W W') : PB E k fs w W' x y := ⟨h.bx.call hb, fun p hp => (h.ms p hp).grow hb⟩
theorem PB.drew (h : PB E k fs w W x y) : PB E k fs w W.drew x y := h.call (Below.refl _ _).drew
theorem PB.setP (h : PB E k fs w W x y) (j : Nat) (v : Value) : PB E k fs w (W.setCell ⟨w.heap.size, j, none⟩ v) (x.set j v) y :=
  ⟨h.bx.setP j v, fun p hp => (h.ms p hp).kept (fun b hb _ => Below.heap_setCell W ⟨w.heap.size, j, none⟩ v b (by have : w.heap.size + 2 ≤ b := hb; show b ≠ w.heap.size; omega)) (by simp [World.setCell])⟩
theorem PB.setQ (h : PB E k fs w W x y) (j : Nat) (v : Value) : PB E k fs w (W.setCell ⟨w.heap.size + 1, j, none⟩ v) x (y.set j v) :=
  ⟨h.bx.setQ j v, fun p hp => (h.ms p hp).kept (fun b hb _ => Below.heap_setCell W ⟨w.heap.size + 1, j, none⟩ v b (by have : w.heap.size + 2 ≤ b := hb; show b ≠ w.heap.size + 1; omega)) (by simp [World.setCell])⟩
/-- a call that makes a field -/
theorem PB.made (h : PB E k fs w W x y) (hb : Below W.heap.size W W') {d : D} {v : Value} (hm : Mem true (From W.heap.size) W' d v) : PB E k ((d, v) :: fs) w W' x y :=
  ⟨h.bx.call hb, fun p hp => by
    rcases List.mem_cons.1 hp with rfl | hp
    · exact hm.weak fun b hb2 _ => by have : W.heap.size ≤ b := hb2; have := h.bx.lt; show w.heap.size + 2 ≤ b; omega
    · exact (h.ms p hp).grow hb⟩
theorem PB.new (h : PB E k fs w W x y) : ∀ p ∈ fs, Mem true (From w.heap.size) W p.1 p.2 := fun p hp => (h.ms p hp).weak fun b hb _ => by have : w.heap.size + 2 ≤ b := hb; show w.heap.size ≤ b; omega
end
theorem cloneAttrs (a : Option Addr) (c : Nat) (l : List AttrD) (w : World) (hl : l.length ≤ 1048576) (h : Mem false (From 0) w (flatL 2 AttrD.cs l) (.slice a l.length c)) :
    Calls Tryz.prog 87 #[.slice a l.length c] w fun e w' => ∃ va vc, e = .returned (.slice va l.length vc) ∧ Mem true (From w.heap.size) w' (flatL 2 AttrD.cs l) (.slice va l.length vc) ∧ Below w.heap.size w w' :=
  clone_flat Tryz.cloneAttr elemAttr a c w (fun _ => rfl) (fun x u hu => by
    simp only [AttrD.cs, List.mem_cons, List.not_mem_nil, or_false] at hu
    rcases hu with rfl | rfl <;> rfl) hl (by omega) h
theorem clonePairs (a : Option Addr) (c : Nat) (l : List (ByteArray × ByteArray)) (w : World) (hl : l.length ≤ 1048576) (h : Mem false (From 0) w (flatL 2 pairC l) (.slice a l.length c)) :
    Calls Tryz.prog 88 #[.slice a l.length c] w fun e w' => ∃ va vc, e = .returned (.slice va l.length vc) ∧ Mem true (From w.heap.size) w' (flatL 2 pairC l) (.slice va l.length vc) ∧ Below w.heap.size w w' :=
  clone_flat Tryz.laysSlE041_f88 elemPair a c w (fun _ => rfl) (fun x u hu => by
    simp only [pairC, List.mem_cons, List.not_mem_nil, or_false] at hu
    rcases hu with rfl | rfl <;> rfl) hl (by omega) h
theorem cloneTexts (a : Option Addr) (c : Nat) (l : List ByteArray) (w : World) (hl : l.length ≤ 1048576) (h : Mem false (From 0) w (strD l) (.slice a l.length c)) :
    Calls Tryz.prog 41 #[.slice a l.length c] w fun e w' => ∃ va vc, e = .returned (.slice va l.length vc) ∧ Mem true (From w.heap.size) w' (strD l) (.slice va l.length vc) ∧ Below w.heap.size w w' := by
  refine (cloneStrs (.slice a l.length c) l w hl (strD_strs h)).mono ?_
  rintro e w' ⟨va, vc, rfl, hO, hb⟩
  exact ⟨va, vc, rfl, own_strD hO, hb⟩
theorem ret_mown {w W : World} {a : Act} {x : List Value} {n : ByteArray} {v1 v2 v3 v4 v5 : Value} {R : Ending → World → Prop} (h : B2 53 6 w W x (modelC n v1 v2 v3 v4 v5)) (hp : a.tmps.getD 2 undef = .pointer (some ⟨w.heap.size + 1, 0, none⟩)) (hd : a.defers = [])
    (hR : R (.returned (.agg (modelC n v1 v2 v3 v4 v5).toArray)) W) : bodyPost Tryz.prog Tryz.f44 R .ret a W := by
  refine bodyPost_ret ?_ hd hR
  have hp' : a.tmps[2]?.getD undef = .pointer (some ⟨w.heap.size + 1, 0, none⟩) := by simpa using hp
  simp [results, Tryz.results44, hp', go_sem, h.cq 0 _ rfl, h.cq 1 _ rfl, h.cq 2 _ rfl, h.cq 3 _ rfl, h.cq 4 _ rfl, h.cq 5 _ rfl]
set_option maxHeartbeats 8000000 in
set_option maxRecDepth 100000 in
theorem stModelTwin (md : ModelD) (hok : md.Ok) (a1 : Option Addr) (c1 : Nat) (a2 : Option Addr) (c2 : Nat) (a3 : Option Addr) (c3 : Nat) (a4 : Option Addr) (c4 : Nat) (a5 : Option Addr) (c5 : Nat) (w : World) (hM : ModelM false (From 0) w md ⟨a1, c1, a2, c2, a3, c3, a4, c4, a5, c5⟩) :
    Calls Tryz.prog 44 #[.agg (modelC md.name (.slice a1 md.attrs.length c1) (.slice a2 md.events.length c2) (.slice a3 md.stages.length c3) (.slice a4 md.stones.length c4) (.slice a5 md.apart.length c5)).toArray] w (MEnd md w) := by
  have HC1 := Lib.hid (fun W (hb : Below w.heap.size w W) => cloneAttrs a1 c1 md.attrs W hok.al (hM.attrs.grow hb))
  have HC2 := Lib.hid (fun W (hb : Below w.heap.size w W) => cloneTexts a2 c2 md.events W hok.el (hM.events.grow hb))
  have HC3 := Lib.hid (fun W (hb : Below w.heap.size w W) => clonePairs a5 c5 md.apart W hok.pl (hM.apart.grow hb))
  have HC4 := Lib.hid (fun W (hb : Below w.heap.size w W) => eachStages md.stages a3 c3 W hok.sl hok.so (hM.stages.grow hb))
  have HC5 := Lib.hid (fun W (hb : Below w.heap.size w W) => eachStones md.stones a4 c4 W hok.tl hok.st (hM.stones.grow hb))
  have hl1 : (md.stages.map StageD.ds).length = md.stages.length := List.length_map ..
  have hl2 : (md.stones.map StoneD.ds).length = md.stones.length := List.length_map ..
  unfold EachM at HC4 HC5
  rw [hl1] at HC4
  rw [hl2] at HC5
  have HDS : Hid (∀ W (mv' : ModelV), ModelM true (From w.heap.size) W md mv' → Below w.heap.size w W → MEnd md w (.returned (.agg (mv'.cs md).toArray)) W) := fun W mv' h1 h2 => ⟨mv', rfl, h1, h2⟩
  generalize MEnd md w = R at HDS ⊢
  have HP0 := Lib.hid (PB.start (B2.start w 53 6 #[.string md.name, .slice a1 md.attrs.length c1, .slice a2 md.events.length c2, .slice a3 md.stages.length c3, .slice a4 md.stones.length c4, .slice a5 md.apart.length c5] #[.string ⟨#[]⟩, .slice none 0 0, .slice none 0 0, .slice none 0 0, .slice none 0 0, .slice none 0 0] rfl rfl))
  clear hM hok hl1 hl2
  go_enter Tryz.func44, Tryz.ntmps44
  go_upto_region 1 with fail
  revert HP0
  generalize ((w.alloc (.cells #[.string md.name, .slice a1 md.attrs.length c1, .slice a2 md.events.length c2, .slice a3 md.stages.length c3, .slice a4 md.stones.length c4, .slice a5 md.apart.length c5] 53)).alloc (.cells #[.string ⟨#[]⟩, .slice none 0 0, .slice none 0 0, .slice none 0 0, .slice none 0 0, .slice none 0 0] 53)) = W0
  intro HP0
  have hq0 := HP0.out.drew
  clear HP0
  refine Until.start (S := fun W => B2 53 6 w W (modelC md.name (.slice a1 md.attrs.length c1) (.slice a2 md.events.length c2) (.slice a3 md.stages.length c3) (.slice a4 md.stones.length c4) (.slice a5 md.apart.length c5)) [.string ⟨#[]⟩, .slice none 0 0, .slice none 0 0, .slice none 0 0, .slice none 0 0, .slice none 0 0]) (st := 10) (by kernel_rfl) ?_
  have hH := hq0.bx
  refine Until.take (i := 0) (oi := { dst := some 3, op := Op.fieldAddr 53 (Operand.tmp 1) 1, type := 0, pos := "state.go:188", after := #[], guard := none }) (v := .pointer (some ⟨w.heap.size, 1, none⟩)) rfl (by kernel_rfl) (by kernel_rfl) (by kernel_rfl) (fun _ _ _ h => h) (by decide) (Or.inl ⟨by rfl, fun W _ => by go_simp⟩) (fun _ => hH) ?_
  simp only [Act.put, List.setIfInBounds_toArray, List.set_cons_zero, List.set_cons_succ]
  refine Until.load (i := 1) (oi := { dst := some 4, op := Op.load 48 (Operand.tmp 3), type := 48, pos := "state.go:188", after := #[{ on := 0, ground := Ground.data }], guard := none }) (v := .slice a1 md.attrs.length c1) rfl (by kernel_rfl) (by kernel_rfl) (by kernel_rfl) (fun _ _ _ h => h) (by decide) (by kernel_rfl) (by kernel_rfl) (Or.inl ⟨by rfl, fun W hS => by have k := hS.cp 1 _ rfl; go_simp⟩) hH ?_
  simp only [Act.put, List.setIfInBounds_toArray, List.set_cons_zero, List.set_cons_succ]
  refine Until.take (i := 3) (oi := { dst := some 6, op := Op.fieldAddr 53 (Operand.tmp 1) 2, type := 0, pos := "state.go:188", after := #[], guard := none }) (v := .pointer (some ⟨w.heap.size, 2, none⟩)) rfl (by kernel_rfl) (by kernel_rfl) (by kernel_rfl) (fun _ _ _ h => h) (by decide) (Or.inl ⟨by rfl, fun W _ => by go_simp⟩) (fun _ => hH) ?_
  simp only [Act.put, List.setIfInBounds_toArray, List.set_cons_zero, List.set_cons_succ]
  refine Until.load (i := 4) (oi := { dst := some 7, op := Op.load 23 (Operand.tmp 6), type := 23, pos := "state.go:188", after := #[{ on := 3, ground := Ground.data }], guard := none }) (v := .slice a2 md.events.length c2) rfl (by kernel_rfl) (by kernel_rfl) (by kernel_rfl) (fun _ _ _ h => h) (by decide) (by kernel_rfl) (by kernel_rfl) (Or.inl ⟨by rfl, fun W hS => by have k := hS.cp 2 _ rfl; go_simp⟩) hH ?_
  simp only [Act.put, List.setIfInBounds_toArray, List.set_cons_zero, List.set_cons_succ]
  refine Until.take (i := 6) (oi := { dst := some 9, op := Op.fieldAddr 53 (Operand.tmp 1) 5, type := 0, pos := "state.go:188", after := #[], guard := none }) (v := .pointer (some ⟨w.heap.size, 5, none⟩)) rfl (by kernel_rfl) (by kernel_rfl) (by kernel_rfl) (fun _ _ _ h => h) (by decide) (Or.inl ⟨by rfl, fun W _ => by go_simp⟩) (fun _ => hH) ?_
  simp only [Act.put, List.setIfInBounds_toArray, List.set_cons_zero, List.set_cons_succ]
  refine Until.load (i := 7) (oi := { dst := some 10, op := Op.load 51 (Operand.tmp 9), type := 51, pos := "state.go:188", after := #[{ on := 6, ground := Ground.data }], guard := none }) (v := .slice a5 md.apart.length c5) rfl (by kernel_rfl) (by kernel_rfl) (by kernel_rfl) (fun _ _ _ h => h) (by decide) (by kernel_rfl) (by kernel_rfl) (Or.inl ⟨by rfl, fun W hS => by have k := hS.cp 5 _ rfl; go_simp⟩) hH ?_
  simp only [Act.put, List.setIfInBounds_toArray, List.set_cons_zero, List.set_cons_succ]
  refine Until.one (i := 2) (o := { dst := some 5, op := Op.call { callee := Callee.value (Operand.func 87), args := #[Operand.tmp 4], argTypes := #[48] }, type := 48, pos := "state.go:188", after := #[{ on := 1, ground := Ground.data }], guard := none }) (by kernel_rfl) rfl (fun K hK => ?_)
  go_simp
  go_at_call 87
  refine (HC1.out _ hH.below).mono ?_
  rintro e W1 ⟨va1, vc1, rfl, hm1, hb1⟩
  have hq1 := hq0.made hb1 hm1
  clear hb1 hm1 hq0 HC1
  have hH' := hq1.bx
  go_wp2_with fail
  refine hK.out _ _ (fun _ => hH') ?_
  clear hK K hH
  try simp only [Act.put, List.setIfInBounds_toArray, List.set_cons_zero, List.set_cons_succ]
  have hH := hH'
  clear hH'
  refine Until.take (i := 9) (oi := { dst := some 12, op := Op.fieldAddr 53 (Operand.tmp 1) 1, type := 0, pos := "state.go:188", after := #[{ on := 0, ground := Ground.phase }, { on := 1, ground := Ground.phase }, { on := 2, ground := Ground.phase }, { on := 3, ground := Ground.phase }, { on := 4, ground := Ground.phase }, { on := 5, ground := Ground.textOnly Departure.lateStoresUnsure }, { on := 6, ground := Ground.phase }, { on := 7, ground := Ground.phase }, { on := 8, ground := Ground.textOnly Departure.lateStoresUnsure }], guard := none }) (v := .pointer (some ⟨w.heap.size, 1, none⟩)) rfl (by kernel_rfl) (by kernel_rfl) (by kernel_rfl) (fun _ _ _ h => h) (by decide) (Or.inl ⟨by rfl, fun W _ => by go_simp⟩) (fun _ => hH) ?_
  simp only [Act.put, List.setIfInBounds_toArray, List.set_cons_zero, List.set_cons_succ]
  refine Until.one (i := 5) (o := { dst := some 8, op := Op.call { callee := Callee.value (Operand.func 41), args := #[Operand.tmp 7], argTypes := #[23] }, type := 23, pos := "state.go:188", after := #[{ on := 4, ground := Ground.data }, { on := 2, ground := Ground.chain }], guard := none }) (by kernel_rfl) rfl (fun K hK => ?_)
  go_simp
  go_at_call 41
  refine (HC2.out _ hH.below).mono ?_
  rintro e W2 ⟨va2, vc2, rfl, hm2, hb2⟩
  have hq2 := hq1.made hb2 hm2
  clear hb2 hm2 hq1 HC2
  have hH' := hq2.bx
  go_wp2_with fail
  refine hK.out _ _ (fun _ => hH') ?_
  clear hK K hH
  try simp only [Act.put, List.setIfInBounds_toArray, List.set_cons_zero, List.set_cons_succ]
  have hH := hH'
  clear hH'
  refine Until.one (i := 8) (o := { dst := some 11, op := Op.call { callee := Callee.value (Operand.func 88), args := #[Operand.tmp 10], argTypes := #[51] }, type := 51, pos := "state.go:188", after := #[{ on := 7, ground := Ground.data }, { on := 5, ground := Ground.chain }], guard := none }) (by kernel_rfl) rfl (fun K hK => ?_)
  go_simp
  go_at_call 88
  refine (HC3.out _ hH.below).mono ?_
  rintro e W3 ⟨va3, vc3, rfl, hm3, hb3⟩
  have hq3 := hq2.made hb3 hm3
  clear hb3 hm3 hq2 HC3
  have hH' := hq3.bx
  go_wp2_with fail
  refine hK.out _ _ (fun _ => hH') ?_
  clear hK K hH
  try simp only [Act.put, List.setIfInBounds_toArray, List.set_cons_zero, List.set_cons_succ]
  have hH := hH'
  clear hH'
  refine Until.one (i := 10) (o := { dst := none, op := Op.store 48 (Operand.tmp 12) (Operand.tmp 5), type := 0, pos := "state.go:188", after := #[{ on := 9, ground := Ground.data }, { on := 2, ground := Ground.data }, { on := 8, ground := Ground.chain }, { on := 0, ground := Ground.phase }, { on := 1, ground := Ground.phase }, { on := 2, ground := Ground.phase }, { on := 3, ground := Ground.phase }, { on := 4, ground := Ground.phase }, { on := 5, ground := Ground.textOnly Departure.lateStoresUnsure }, { on := 6, ground := Ground.phase }, { on := 7, ground := Ground.phase }, { on := 8, ground := Ground.textOnly Departure.lateStoresUnsure }], guard := none }) (by kernel_rfl) rfl (fun K hK => ?_)
  have c := hq3.bx.cp 1 _ rfl
  have f := hq3.bx.fp 1
  go_simp
  refine hK.out _ _ (fun h => absurd h (by decide +kernel)) ?_
  clear hK K
  try simp only [Act.put, List.setIfInBounds_toArray, List.set_cons_zero, List.set_cons_succ]
  have hq4 := hq3.setP 1 (.slice va1 md.attrs.length vc1)
  clear c f hq3
  refine Until.take (i := 11) (oi := { dst := some 13, op := Op.fieldAddr 53 (Operand.tmp 1) 2, type := 0, pos := "state.go:188", after := #[{ on := 0, ground := Ground.phase }, { on := 1, ground := Ground.phase }, { on := 2, ground := Ground.phase }, { on := 3, ground := Ground.phase }, { on := 4, ground := Ground.phase }, { on := 5, ground := Ground.phase }, { on := 6, ground := Ground.phase }, { on := 7, ground := Ground.phase }, { on := 8, ground := Ground.textOnly Departure.lateStoresUnsure }, { on := 9, ground := Ground.phase }, { on := 10, ground := Ground.phase }], guard := none }) (v := .pointer (some ⟨w.heap.size, 2, none⟩)) rfl (by kernel_rfl) (by kernel_rfl) (by kernel_rfl) (fun _ _ _ h => h) (by decide) (Or.inl ⟨by rfl, fun W _ => by go_simp⟩) (fun h => absurd h (by decide +kernel)) ?_
  simp only [Act.put, List.setIfInBounds_toArray, List.set_cons_zero, List.set_cons_succ]
  refine Until.one (i := 12) (o := { dst := none, op := Op.store 23 (Operand.tmp 13) (Operand.tmp 8), type := 0, pos := "state.go:188", after := #[{ on := 11, ground := Ground.data }, { on := 5, ground := Ground.data }, { on := 10, ground := Ground.chain }, { on := 0, ground := Ground.phase }, { on := 1, ground := Ground.phase }, { on := 2, ground := Ground.phase }, { on := 3, ground := Ground.phase }, { on := 4, ground := Ground.phase }, { on := 5, ground := Ground.phase }, { on := 6, ground := Ground.phase }, { on := 7, ground := Ground.phase }, { on := 8, ground := Ground.textOnly Departure.lateStoresUnsure }, { on := 9, ground := Ground.phase }, { on := 10, ground := Ground.phase }], guard := none }) (by kernel_rfl) rfl (fun K hK => ?_)
  have c := hq4.bx.cp 2 _ rfl
  have f := hq4.bx.fp 2
  go_simp
  refine hK.out _ _ (fun h => absurd h (by decide +kernel)) ?_
  clear hK K
  try simp only [Act.put, List.setIfInBounds_toArray, List.set_cons_zero, List.set_cons_succ]
  have hq5 := hq4.setP 2 (.slice va2 md.events.length vc2)
  clear c f hq4
  refine Until.take (i := 13) (oi := { dst := some 14, op := Op.fieldAddr 53 (Operand.tmp 1) 5, type := 0, pos := "state.go:188", after := #[{ on := 0, ground := Ground.phase }, { on := 1, ground := Ground.phase }, { on := 2, ground := Ground.phase }, { on := 3, ground := Ground.phase }, { on := 4, ground := Ground.phase }, { on := 5, ground := Ground.phase }, { on := 6, ground := Ground.phase }, { on := 7, ground := Ground.phase }, { on := 8, ground := Ground.phase }, { on := 9, ground := Ground.phase }, { on := 10, ground := Ground.phase }, { on := 11, ground := Ground.phase }, { on := 12, ground := Ground.phase }], guard := none }) (v := .pointer (some ⟨w.heap.size, 5, none⟩)) rfl (by kernel_rfl) (by kernel_rfl) (by kernel_rfl) (fun _ _ _ h => h) (by decide) (Or.inl ⟨by rfl, fun W _ => by go_simp⟩) (fun h => absurd h (by decide +kernel)) ?_
  simp only [Act.put, List.setIfInBounds_toArray, List.set_cons_zero, List.set_cons_succ]
  refine Until.one (i := 14) (o := { dst := none, op := Op.store 51 (Operand.tmp 14) (Operand.tmp 11), type := 0, pos := "state.go:188", after := #[{ on := 13, ground := Ground.data }, { on := 8, ground := Ground.data }, { on := 12, ground := Ground.chain }, { on := 0, ground := Ground.phase }, { on := 1, ground := Ground.phase }, { on := 2, ground := Ground.phase }, { on := 3, ground := Ground.phase }, { on := 4, ground := Ground.phase }, { on := 5, ground := Ground.phase }, { on := 6, ground := Ground.phase }, { on := 7, ground := Ground.phase }, { on := 8, ground := Ground.phase }, { on := 9, ground := Ground.phase }, { on := 10, ground := Ground.phase }, { on := 11, ground := Ground.phase }, { on := 12, ground := Ground.phase }], guard := none }) (by kernel_rfl) rfl (fun K hK => ?_)
  have c := hq5.bx.cp 5 _ rfl
  have f := hq5.bx.fp 5
  go_simp
  refine hK.out _ _ (fun h => absurd h (by decide +kernel)) ?_
  clear hK K
  try simp only [Act.put, List.setIfInBounds_toArray, List.set_cons_zero, List.set_cons_succ]
  have hq6 := hq5.setP 5 (.slice va3 md.apart.length vc3)
  clear c f hq5
  refine Until.done (by kernel_rfl) ?_ _
  have HX := Lib.hid hq6
  clear hq6 hH
  go_upto_region 2 with fail
  revert HX
  generalize (((W3.setCell ⟨w.heap.size, 1, none⟩ (.slice va1 md.attrs.length vc1)).setCell ⟨w.heap.size, 2, none⟩ (.slice va2 md.events.length vc2)).setCell ⟨w.heap.size, 5, none⟩ (.slice va3 md.apart.length vc3)) = W4
  intro HX
  have k3 := HX.out.bx.cp 3 _ rfl
  go_wp2_with fail
  refine (HC4.out _ HX.out.bx.below).mono ?_
  rintro e W5 ⟨va4, vc4, rfl, hm4, hb4⟩
  have HX5 := Lib.hid (HX.out.made hb4 hm4)
  have c := HX5.out.bx.cp 3 _ rfl
  have f := HX5.out.bx.fp 3
  clear hb4 hm4 HX HC4 k3
  go_upto_region 3 with fail
  have HX6 := Lib.hid (HX5.out.setP 3 (.slice va4 md.stages.length vc4))
  clear c f HX5
  revert HX6
  generalize W5.setCell ⟨w.heap.size, 3, none⟩ (.slice va4 md.stages.length vc4) = W6
  intro HX6
  have k4 := HX6.out.bx.cp 4 _ rfl
  go_wp2_with fail
  refine (HC5.out _ HX6.out.bx.below).mono ?_
  rintro e W7 ⟨va5, vc5, rfl, hm5, hb5⟩
  have HX7 := Lib.hid (HX6.out.made hb5 hm5)
  have c := HX7.out.bx.cp 4 _ rfl
  have f := HX7.out.bx.fp 4
  clear hb5 hm5 HX6 HC5 k4
  go_upto_region 4 with fail
  have HX8 := Lib.hid (HX7.out.setP 4 (.slice va5 md.stones.length vc5))
  clear c f HX7
  revert HX8
  generalize W7.setCell ⟨w.heap.size, 4, none⟩ (.slice va5 md.stones.length vc5) = W8
  intro HX8
  have r0 := HX8.out.bx.cp 0 _ rfl
  have r1 := HX8.out.bx.cp 1 _ rfl
  have r2 := HX8.out.bx.cp 2 _ rfl
  have r3 := HX8.out.bx.cp 3 _ rfl
  have r4 := HX8.out.bx.cp 4 _ rfl
  have r5 := HX8.out.bx.cp 5 _ rfl
  have q0 := HX8.out.bx.cq 0 _ rfl
  have q1 := HX8.out.bx.cq 1 _ rfl
  have q2 := HX8.out.bx.cq 2 _ rfl
  have q3 := HX8.out.bx.cq 3 _ rfl
  have q4 := HX8.out.bx.cq 4 _ rfl
  have q5 := HX8.out.bx.cq 5 _ rfl
  have hf := HX8.out.bx.fq
  go_wp2_with fail
  have h7 := (((((HX8.out.setQ 0 (.string md.name)).setQ 1 (.slice va1 md.attrs.length vc1)).setQ 2 (.slice va2 md.events.length vc2)).setQ 3 (.slice va4 md.stages.length vc4)).setQ 4 (.slice va5 md.stones.length vc5)).setQ 5 (.slice va3 md.apart.length vc3)
  have hfr := h7.new
  exact ret_mown (n := md.name) (v1 := .slice va1 md.attrs.length vc1) (v2 := .slice va2 md.events.length vc2) (v3 := .slice va4 md.stages.length vc4) (v4 := .slice va5 md.stones.length vc5) (v5 := .slice va3 md.apart.length vc3) h7.bx rfl rfl
    (HDS.out _ ⟨va1, vc1, va2, vc2, va4, vc4, va5, vc5, va3, vc3⟩ ⟨hfr (flatL 2 AttrD.cs md.attrs, .slice va1 md.attrs.length vc1) (by simp), hfr (strD md.events, .slice va2 md.events.length vc2) (by simp), hfr (.list 7 (md.stages.map StageD.ds), .slice va4 md.stages.length vc4) (by simp), hfr (.list 3 (md.stones.map StoneD.ds), .slice va5 md.stones.length vc5) (by simp), hfr (flatL 2 pairC md.apart, .slice va3 md.apart.length vc3) (by simp)⟩ h7.bx.below)
end Go.Proofs.YtinijohmdljieaaGreatDoor
