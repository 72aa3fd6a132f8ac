/- docketref24.Case. package state: Case (the first case of a number, in memory of its own). package state: Case (the walk). -/
import Derived.Test.YtinijohmdljieaaGreatDoorH12
import Derived.Test.YtinijohmdljieaaGreatDoorOwnC
import Derived.Test.YtinijohmdljieaaGreatDoorLook0
import Derived.Lib.SliceRun
namespace Go.Proofs.YtinijohmdljieaaGreatDoor
open Go.RowKit

theorem ret_refCase {r : Nat} {W : World} {a : Act} {u0 u1 u2 u3 u4 u5 u6 v : Value} {R : Ending → World → Prop} (hp : a.tmps.getD 4 undef = .pointer (some ⟨r, 0, none⟩)) (hv : a.tmps.getD 5 undef = v) (hd : a.defers = [])
    (h0 : W.cell? ⟨r, 0, none⟩ = some u0) (h1 : W.cell? ⟨r, 1, none⟩ = some u1) (h2 : W.cell? ⟨r, 2, none⟩ = some u2) (h3 : W.cell? ⟨r, 3, none⟩ = some u3) (h4 : W.cell? ⟨r, 4, none⟩ = some u4) (h5 : W.cell? ⟨r, 5, none⟩ = some u5) (h6 : W.cell? ⟨r, 6, none⟩ = some u6)
    (hR : R (.returned (.tuple #[.agg #[u0, u1, u2, u3, u4, u5, u6], v])) W) : bodyPost Tryz.prog Tryz.f15 R .ret a W := by
  refine bodyPost_ret ?_ hd hR
  subst hv
  have hp' : a.tmps[4]?.getD undef = .pointer (some ⟨r, 0, none⟩) := by simpa using hp
  simp [results, Tryz.results15, hp', go_sem, h0, h1, h2, h3, h4, h5, h6]
set_option maxHeartbeats 8000000 in
set_option maxRecDepth 100000 in
theorem refCase (sd : StateD) (us : List Value) (id : Int) (w : World) (hl : sd.cases.length ≤ 1048576) (hm : MemL false (From 0) w sd.ds us) : Calls Tryz.prog 15 #[.agg us.toArray, .int .i64 id] w (AnsEnd false (From 0) (caseOut sd.cases id).ds (caseCode sd.cases id) w) := by
  obtain ⟨a1, c1, a2, c2, a3, c3, a4, c4, a5, c5, a6, c6, a7, c7, a8, c8, rfl, hM⟩ := StateD.cells hm
  obtain ⟨_, _, b, off, hv, -, hC⟩ := rec_open hM.c
  injection hv with e1 e2 e3
  subst e1 e3
  have HB0 := Lib.hid (BB.start w 35 14 64 7 #[.int .i64 sd.clock, .string sd.secret, .slice a1 sd.users.length c1, .slice a2 sd.roles.length c2, .slice a3 sd.models.length c3, .slice a4 sd.cases.length c4, .slice a5 sd.timers.length c5, .slice a6 sd.works.length c6, .slice a7 sd.audit.length c7, .slice a8 sd.sess.length c8, .int .i64 sd.nc, .int .i64 sd.nw, .int .i64 sd.np, .int .i64 sd.nt] #[.int .i64 0, .string ⟨#[]⟩, .int .i64 0, .slice none 0 0, .slice none 0 0, .slice none 0 0, .slice none 0 0] rfl rfl)
  have HC := Lib.hid hC
  generalize hQ : AnsEnd false (From 0) (caseOut sd.cases id).ds (caseCode sd.cases id) w = Q
  have HQ := Lib.hid hQ
  clear hm hM hC e2 hQ
  go_enter Tryz.func15, Tryz.ntmps15
  go_upto_region 1 with fail
  revert HB0
  generalize ((w.alloc (.cells #[.int .i64 sd.clock, .string sd.secret, .slice a1 sd.users.length c1, .slice a2 sd.roles.length c2, .slice a3 sd.models.length c3, .slice a4 sd.cases.length c4, .slice a5 sd.timers.length c5, .slice a6 sd.works.length c6, .slice a7 sd.audit.length c7, .slice a8 sd.sess.length c8, .int .i64 sd.nc, .int .i64 sd.nw, .int .i64 sd.np, .int .i64 sd.nt] 35)).alloc (.cells #[.int .i64 0, .string ⟨#[]⟩, .int .i64 0, .slice none 0 0, .slice none 0 0, .slice none 0 0, .slice none 0 0] 64)) = W0
  intro HB0
  have k5 := HB0.out.cp 5 _ rfl
  have q0 := HB0.out.cq 0 _ rfl
  have q1 := HB0.out.cq 1 _ rfl
  have q2 := HB0.out.cq 2 _ rfl
  have q3 := HB0.out.cq 3 _ rfl
  have q4 := HB0.out.cq 4 _ rfl
  have q5 := HB0.out.cq 5 _ rfl
  have q6 := HB0.out.cq 6 _ rfl
  have hf := HB0.out.fq
  go_wp2_with fail
  go_loopw [6] (fun i wr => ∃ m : Nat, m ≤ sd.cases.length ∧ i = .int .i64 (m : Int) ∧ wr = W0 ∧ Hid (∀ j (hj : j < sd.cases.length), j < m → (sd.cases[j].id == id) = false)) (fun i _ => sd.cases.length - (intOf i).toNat)
  case atStart => exact ⟨0, Nat.zero_le _, rfl, rfl, fun j _ h => absurd h (Nat.not_lt_zero _)⟩
  case round =>
    obtain ⟨m, hml, rfl, rfl, HN⟩ := hrel
    by_cases hlt : m < sd.cases.length
    · have i1 : (m : Int) < (sd.cases.length : Int) := by omega
      have i2 : (0 : Int) ≤ (m : Int) := by omega
      have HML := Lib.hid hlt
      obtain ⟨rfl, -, hbl⟩ := HC.out.at0 (by omega)
      obtain ⟨us, hus, hcell⟩ := HC.out.row m hlt
      obtain ⟨d1, e1, d2, e2, d3, e3, d4, e4, hu, -⟩ := CaseD.cells hus
      subst hu
      have c0 : wr.cell? ⟨b, off + m * 7, none⟩ = some (.int .i64 sd.cases[m].id) := cellBelow2 HB0.out.below (hcell 0 _ rfl)
      cases hq : sd.cases[m].id == id with
      | true =>
        have hm1 : caseIx sd.cases id = (m : Int) := ix_hit (fun c : CaseD => c.id == id) sd.cases m hlt hq fun j hj hjm => HN.out j hj hjm
        obtain ⟨ho1, ho2⟩ := caseOut_hit hlt hm1
        have r1 : wr.cell? ⟨b, off + m * 7 + 1, none⟩ = some (.string sd.cases[m].model) := cellBelow2 HB0.out.below (hcell 1 _ rfl)
        have r2 : wr.cell? ⟨b, off + m * 7 + 2, none⟩ = some (.int .i64 sd.cases[m].version) := cellBelow2 HB0.out.below (hcell 2 _ rfl)
        have r3 : wr.cell? ⟨b, off + m * 7 + 3, none⟩ = some (.slice d1 sd.cases[m].values.length e1) := cellBelow2 HB0.out.below (hcell 3 _ rfl)
        have r4 : wr.cell? ⟨b, off + m * 7 + 4, none⟩ = some (.slice d2 sd.cases[m].opn.length e2) := cellBelow2 HB0.out.below (hcell 4 _ rfl)
        have r5 : wr.cell? ⟨b, off + m * 7 + 5, none⟩ = some (.slice d3 sd.cases[m].done.length e3) := cellBelow2 HB0.out.below (hcell 5 _ rfl)
        have r6 : wr.cell? ⟨b, off + m * 7 + 6, none⟩ = some (.slice d4 sd.cases[m].acted.length e4) := cellBelow2 HB0.out.below (hcell 6 _ rfl)
        have HUS := Lib.hid hus
        rw [ho1, ho2] at HQ
        have HE : Hid (sd.cases[m].id = id) := by show _ = _; simpa using hq
        clear hus hcell hm1 ho1 ho2
        go_wp2_with fail
        have h7 := ((((((HB0.out.setQ 0 (.int .i64 sd.cases[m].id)).setQ 1 (.string sd.cases[m].model)).setQ 2 (.int .i64 sd.cases[m].version)).setQ 3 (.slice d1 sd.cases[m].values.length e1)).setQ 4 (.slice d2 sd.cases[m].opn.length e2)).setQ 5 (.slice d3 sd.cases[m].done.length e3)).setQ 6 (.slice d4 sd.cases[m].acted.length e4)
        refine ret_refCase (r := w.heap.size + 1) rfl rfl rfl (h7.cq 0 _ rfl) (h7.cq 1 _ rfl) (h7.cq 2 _ rfl) (h7.cq 3 _ rfl) (h7.cq 4 _ rfl) (h7.cq 5 _ rfl) (h7.cq 6 _ rfl) ?_
        rw [← HQ.out]
        exact ⟨_, rfl, HUS.out.grow h7.below, h7.below⟩
      | false =>
        have wr1 : IntKind.i64.wrap ((m : Int) + 1) = (m : Int) + 1 := wrap_i64 (by omega) (by omega)
        have HQ2 := Lib.hid hq
        clear hus hcell
        go_wp2_with fail
        refine ⟨⟨m + 1, by omega, by go_num, by first | trivial | rfl, (show Hid _ from fun j hj hjm => ?_)⟩, by simp only [intOf]; have := HML.out; omega⟩
        rcases Nat.lt_or_ge j m with h1 | h1
        · exact HN.out j hj h1
        · obtain rfl : j = m := by omega
          exact HQ2.out
    · obtain rfl : m = sd.cases.length := by omega
      have i1 : ¬ (sd.cases.length : Int) < (sd.cases.length : Int) := by omega
      have hm1 : caseIx sd.cases id = -1 := ix_miss (fun c : CaseD => c.id == id) sd.cases fun j hj => HN.out j hj hj
      obtain ⟨ho1, ho2⟩ := caseOut_miss hm1
      rw [ho1, ho2] at HQ
      clear hm1 ho1 ho2
      go_wp2_with fail
      have h7 := ((((((HB0.out.setQ 0 (.int .i64 0)).setQ 1 (.string ⟨#[]⟩)).setQ 2 (.int .i64 0)).setQ 3 (.slice none 0 0)).setQ 4 (.slice none 0 0)).setQ 5 (.slice none 0 0)).setQ 6 (.slice none 0 0)
      refine ret_refCase (r := w.heap.size + 1) rfl rfl rfl (h7.cq 0 _ rfl) (h7.cq 1 _ rfl) (h7.cq 2 _ rfl) (h7.cq 3 _ rfl) (h7.cq 4 _ rfl) (h7.cq 5 _ rfl) (h7.cq 6 _ rfl) ?_
      rw [← HQ.out]
      exact ⟨_, rfl, zeroCase_mem _ _ _, h7.below⟩
end Go.Proofs.YtinijohmdljieaaGreatDoor

namespace Go.Proofs.YtinijohmdljieaaGreatDoor
open Go.RowKit

theorem list_of {α : Type} [Inhabited α] (Q : Nat → α → Prop) : ∀ (n : Nat) (_ : ∀ j, j < n → ∃ x, Q j x), ∃ zs : List α, zs.length = n ∧ ∀ j, j < n → Q j zs[j]!
  | 0, _ => ⟨[], rfl, fun j hj => absurd hj (Nat.not_lt_zero _)⟩
  | n + 1, h => by
    obtain ⟨zs, hl, hz⟩ := list_of Q n fun j hj => h j (by omega)
    obtain ⟨x, hx⟩ := h n (by omega)
    refine ⟨zs ++ [x], by simp [hl], fun j hj => ?_⟩
    rcases Nat.lt_or_ge j n with h1 | h1
    · rw [getElem!_pos (zs ++ [x]) j (by simp [hl]; omega), List.getElem_append_left (by omega), ← getElem!_pos zs j (by omega)]
      exact hz j h1
    · obtain rfl : j = n := by omega
      rw [getElem!_pos (zs ++ [x]) j (by simp [hl]), List.getElem_append_right (by omega)]
      simpa [hl] using hx
theorem idx_from {α β : Type} (p : α → Bool) (q : β → Bool) (d : α) (e : β) : ∀ (zs : List α) (l : List β) (i : Nat) (_ : zs.length = l.length) (_ : ∀ j (h : j < zs.length) (h' : j < l.length), p zs[j] = q l[j]), Lib.idxByFrom (fun _ y => p y) d zs i = Lib.idxByFrom (fun _ y => q y) e l i
  | [], [], _, _, _ => rfl
  | z :: zs, x :: l, i, hl, h => by
    have h0 := h 0 (by simp) (by simp)
    simp only [List.getElem_cons_zero] at h0
    simp only [Lib.idxByFrom, h0]
    rw [idx_from p q d e zs l (i + 1) (by simpa using hl) fun j h1 h2 => by have := h (j + 1) (by simpa using h1) (by simpa using h2); simpa only [List.getElem_cons_succ] using this]
structure CRow where
  id : Int
  m : ByteArray
  v : Int
  x3 : Value
  x4 : Value
  x5 : Value
  x6 : Value
def CRow.cs (r : CRow) : List Value := [.int .i64 r.id, .string r.m, .int .i64 r.v, r.x3, r.x4, r.x5, r.x6]
instance : Inhabited CRow := ⟨⟨0, ⟨#[]⟩, 0, undef, undef, undef, undef⟩⟩
set_option maxHeartbeats 2000000 in
set_option maxRecDepth 100000 in
theorem caseClosure (id : Int) (B : Nat) (w : World) (hB : B < w.heap.size) (hcell : w.cell? ⟨B, 0, none⟩ = some (.int .i64 id)) : PredBelow Tryz.prog 46 #[.pointer (some ⟨B, 0, none⟩)] (fun x => .agg (CRow.cs x).toArray) (fun x => x.id == id) w := fun W x hb => by
  have hc : W.cell? ⟨B, 0, none⟩ = some (.int .i64 id) := (hb.cell (p := ⟨B, 0, none⟩) hB).trans hcell
  have hBW : B < W.heap.size := Nat.lt_of_lt_of_le hB hb.size
  have hne : B ≠ W.heap.size := by omega
  show Calls Tryz.prog 46 #[.agg #[.int .i64 x.id, .string x.m, .int .i64 x.v, x.x3, x.x4, x.x5, x.x6], .pointer (some ⟨B, 0, none⟩)] W _
  go_enter Tryz.func46, Tryz.ntmps46
  go_wp2_with fail
  go_ret
  exact ⟨rfl, hb.alloc hb.size _⟩
set_option maxHeartbeats 4000000 in
set_option maxRecDepth 100000 in
theorem ixCaseM (l : List CaseD) (id : Int) (B : Nat) (a : Option Addr) (c : Nat) (w : World) (hl : l.length ≤ 1048576) (h : Mem false (From 0) w (.list 7 (l.map CaseD.ds)) (.slice a l.length c)) (hg : w.cell? ⟨B, 0, none⟩ = some (.int .i64 id)) :
    Calls Tryz.prog 45 #[.slice a l.length c, .func (.func 46) #[] #[.pointer (some ⟨B, 0, none⟩)]] w fun e w' => e = .returned (.int .i64 (caseIx l id)) ∧ Below w.heap.size w w' := by
  obtain ⟨_, _, b, off, hv, -, hC⟩ := rec_open h
  injection hv with e1 e2 e3
  subst e1 e3
  by_cases h0 : l.length = 0
  · have hnil : l = [] := List.eq_nil_of_length_eq_zero h0
    subst hnil
    clear h hC hg
    go_enter Tryz.func45, Tryz.ntmps45
    go_wp2_with fail
    go_loopw [8] (fun i wr => i = .int .i64 0 ∧ wr = w) (fun _ _ => 0)
    case atStart => exact ⟨rfl, rfl⟩
    case round =>
      obtain ⟨rfl, rfl⟩ := hrel
      go_wp2_with fail
      go_ret
      exact ⟨rfl, Below.refl _ _⟩
  · obtain ⟨rfl, -, hbl⟩ := hC.at0 (by omega)
    obtain ⟨zs, hzl, hz⟩ := list_of (fun (j : Nat) (x : CRow) => ∀ (hj : j < l.length), x.id = l[j].id ∧ ∀ i v, x.cs[i]? = some v → w.cell? ⟨b, off + j * 7 + i, none⟩ = some v) l.length fun j hj => by
      obtain ⟨us, hus, hcell⟩ := hC.row j hj
      obtain ⟨d1, e1, d2, e2, d3, e3, d4, e4, hu, -⟩ := CaseD.cells hus
      subst hu
      exact ⟨⟨l[j].id, l[j].model, l[j].version, .slice d1 l[j].values.length e1, .slice d2 l[j].opn.length e2, .slice d3 l[j].done.length e3, .slice d4 l[j].acted.length e4⟩, fun _ => ⟨rfl, fun i v hi => hcell i v hi⟩⟩
    have eg : ∀ args w, (callFunc 46 args).run Tryz.prog w = .ok (.enter 46 args) w := enters_of Tryz.func46 (by kernel_rfl) rfl
    have hcon := AnyQ.slices_IndexFunc Tryz.ixCase 7 Tryz.isAgg64 Tryz.sizeOf64 CRow.cs (fun _ => rfl) (fun x => x.id == id) 46 #[.pointer (some ⟨B, 0, none⟩)] eg b off l.length c zs w
      (caseClosure id B w (World.block_lt_of_cell? w _ hg) hg) (by omega) (by omega) hbl (fun j hj i v hi => (hz j (by omega) (by omega)).2 i v hi)
    have hix : Lib.idxBy (fun _ (y : CRow) => y.id == id) (zs.take l.length) default = caseIx l id := by
      rw [← hzl, List.take_length]
      refine idx_from (fun y : CRow => y.id == id) (fun y : CaseD => y.id == id) default default zs l 0 hzl fun j h1 h2 => ?_
      have := (hz j (by omega) h2).1
      rw [getElem!_pos zs j h1] at this
      rw [this]
    rw [hix] at hcon
    exact hcon
end Go.Proofs.YtinijohmdljieaaGreatDoor

namespace Go.Proofs.YtinijohmdljieaaGreatDoor
open Go.RowKit

/-- a state's box and the answer's -/
structure SR (E2 : TypeId) (k2 rb : Nat) (w W : World) (x y : List Value) : Prop where
  p : Own W w.heap.size 35 14 (some ⟨w.heap.size, 0, none⟩) 1 1 x
  q : Own W w.heap.size E2 k2 (some ⟨rb, 0, none⟩) 1 1 y
  rl : w.heap.size < rb
  below : Below w.heap.size w W
section
variable {E2 : TypeId} {k2 rb : Nat} {w W W' : World} {x y : List Value}
theorem SR.lt (h : SR E2 k2 rb w W x y) : rb < W.heap.size := (h.q.lt rfl).2
theorem SR.call (h : SR E2 k2 rb w W x y) (hb : Below W.heap.size W W') : SR E2 k2 rb w W' x y := ⟨h.p.below hb (Nat.le_refl _), h.q.below hb (Nat.le_refl _), h.rl, h.below.trans (hb.mono h.below.size)⟩
theorem SR.cp (h : SR E2 k2 rb w W x y) (j : Nat) (v : Value) (hj : x[j]? = some v) : W.cell? ⟨w.heap.size, j, none⟩ = some v := h.p.cellAt j hj
theorem SR.cq (h : SR E2 k2 rb w W x y) (j : Nat) (v : Value) (hj : y[j]? = some v) : W.cell? ⟨rb, j, none⟩ = some v := h.q.cellAt j hj
theorem SR.fq (h : SR E2 k2 rb w W x y) (j : Nat) : W.frozen? ⟨rb, j, none⟩ = false := h.q.frozenAt j
theorem SR.setQ (h : SR E2 k2 rb w W x y) (j : Nat) (v : Value) : SR E2 k2 rb w (W.setCell ⟨rb, j, none⟩ v) x (y.set j v) :=
  ⟨h.p.setCell (a := ⟨rb, j, none⟩) (fun g hg => by cases hg; have := h.rl; show _ ≠ rb; omega) v, h.q.set v, h.rl, h.below.setCell (p := ⟨rb, j, none⟩) (by have := h.rl; show w.heap.size ≤ rb; omega) v⟩
theorem SR.far (h : SR E2 k2 rb w W x y) {g : Nat} (hg : rb < g) (j : Nat) (v : Value) : SR E2 k2 rb w (W.setCell ⟨g, j, none⟩ v) x y :=
  ⟨h.p.setCell (a := ⟨g, j, none⟩) (fun q hq => by cases hq; have := h.rl; show _ ≠ g; omega) v, h.q.setCell (a := ⟨g, j, none⟩) (fun q hq => by cases hq; show _ ≠ g; omega) v, h.rl, h.below.setCell (p := ⟨g, j, none⟩) (by have := h.rl; show w.heap.size ≤ g; omega) v⟩
theorem SR.start1 (w : World) (E2 : TypeId) (k2 : Nat) (x y : Array Value) (hx : x.size = 14) (hy : y.size = k2) : SR E2 k2 (w.heap.size + 1) w ((w.alloc (.cells x 35)).alloc (.cells y E2)) x.toList y.toList := by
  have h := BB.start w 35 14 E2 k2 x y hx hy
  exact ⟨h.p, h.q, by omega, h.below⟩
theorem SR.start2 (w : World) (E2 : TypeId) (k2 : Nat) (x y : Array Value) (o : Obj) (hx : x.size = 14) (hy : y.size = k2) : SR E2 k2 (w.heap.size + 1 + 1) w (((w.alloc (.cells x 35)).alloc o).alloc (.cells y E2)) x.toList y.toList := by
  have e1 : ((w.alloc (.cells x 35)).alloc o).heap.size = w.heap.size + 1 + 1 := by simp
  have h2 := ownBox ((w.alloc (.cells x 35)).alloc o) y E2 k2 w.heap.size (by omega) hy
  rw [e1] at h2
  exact ⟨((ownBox w x 35 14 _ (Nat.le_refl _) hx).alloc _).alloc _, h2, by omega, (((Below.refl _ _).alloc (Nat.le_refl _) _).alloc (by simp) _).alloc (by omega) _⟩
end
theorem ret_stCase {r : Nat} {W : World} {a : Act} {u0 u1 u2 u3 u4 u5 u6 v : Value} {R : Ending → World → Prop} (hp : a.tmps.getD 4 undef = .pointer (some ⟨r, 0, none⟩)) (hv : a.tmps.getD 5 undef = v) (hd : a.defers = [])
    (h0 : W.cell? ⟨r, 0, none⟩ = some u0) (h1 : W.cell? ⟨r, 1, none⟩ = some u1) (h2 : W.cell? ⟨r, 2, none⟩ = some u2) (h3 : W.cell? ⟨r, 3, none⟩ = some u3) (h4 : W.cell? ⟨r, 4, none⟩ = some u4) (h5 : W.cell? ⟨r, 5, none⟩ = some u5) (h6 : W.cell? ⟨r, 6, none⟩ = some u6)
    (hR : R (.returned (.tuple #[.agg #[u0, u1, u2, u3, u4, u5, u6], v])) W) : bodyPost Tryz.prog Tryz.f14 R .ret a W := by
  refine bodyPost_ret ?_ hd hR
  subst hv
  have hp' : a.tmps[4]?.getD undef = .pointer (some ⟨r, 0, none⟩) := by simpa using hp
  simp [results, Tryz.results14, hp', go_sem, h0, h1, h2, h3, h4, h5, h6]
/-- a new datum stays where a cell far from it is written -/
theorem MemL.far {o : Bool} {lo : Nat} {W : World} {ds : List D} {us : List Value} (h : MemL o (From lo) W ds us) {g : Nat} (hg : g < lo) (j : Nat) (v : Value) : MemL o (From lo) (W.setCell ⟨g, j, none⟩ v) ds us :=
  h.kept (fun b hb _ => Below.heap_setCell W ⟨g, j, none⟩ v b (by have : lo ≤ b := hb; show b ≠ g; omega)) (by simp [World.setCell])
theorem rec_row {o : Bool} {P : Nat → Prop} {w : World} {l : List CaseD} {a : Option Addr} {b off : Nat} (hC : RecC o P w 7 CaseD.ds l a b off) {m : Nat} (hm : m < l.length) : ∃ d1 e1 d2 e2 d3 e3 d4 e4, a = some ⟨b, off, none⟩ ∧ b < w.heap.size ∧ CaseM o P w l[m] (.slice d1 l[m].values.length e1) (.slice d2 l[m].opn.length e2) (.slice d3 l[m].done.length e3) (.slice d4 l[m].acted.length e4) ∧
    ∀ i u, (caseC l[m] (.slice d1 l[m].values.length e1) (.slice d2 l[m].opn.length e2) (.slice d3 l[m].done.length e3) (.slice d4 l[m].acted.length e4))[i]? = some u → w.cell? ⟨b, off + m * 7 + i, none⟩ = some u := by
  obtain ⟨h1, -, h2⟩ := hC.at0 (by omega)
  obtain ⟨us, hus, hcell⟩ := hC.row m hm
  obtain ⟨d1, e1, d2, e2, d3, e3, d4, e4, hu, hM⟩ := CaseD.cells hus
  subst hu
  exact ⟨d1, e1, d2, e2, d3, e3, d4, e4, h1, h2, hM, hcell⟩
set_option maxHeartbeats 8000000 in
set_option maxRecDepth 100000 in
theorem stCase (sd : StateD) (hok : sd.Ok) (us : List Value) (id : Int) (w : World) (hm : MemL false (From 0) w sd.ds us) : Calls Tryz.prog 14 #[.agg us.toArray, .int .i64 id] w (AnsEnd true (From w.heap.size) (caseOut sd.cases id).ds (caseCode sd.cases id) w) := by
  obtain ⟨a1, c1, a2, c2, a3, c3, a4, c4, a5, c5, a6, c6, a7, c7, a8, c8, rfl, hM⟩ := StateD.cells hm
  obtain ⟨_, _, b, off, hv, -, hC⟩ := rec_open hM.c
  injection hv with e1 e2 e3
  subst e1 e3
  have HB0 := Lib.hid (SR.start2 w 64 7 #[.int .i64 sd.clock, .string sd.secret, .slice a1 sd.users.length c1, .slice a2 sd.roles.length c2, .slice a3 sd.models.length c3, .slice a4 sd.cases.length c4, .slice a5 sd.timers.length c5, .slice a6 sd.works.length c6, .slice a7 sd.audit.length c7, .slice a8 sd.sess.length c8, .int .i64 sd.nc, .int .i64 sd.nw, .int .i64 sd.np, .int .i64 sd.nt] #[.int .i64 0, .string ⟨#[]⟩, .int .i64 0, .slice none 0 0, .slice none 0 0, .slice none 0 0, .slice none 0 0] (.cells #[.int .i64 id] 3) rfl rfl)
  have HC := Lib.hid hC
  have HCO := Lib.hid hok.co
  have HIX := Lib.hid (fun W (hb : Below w.heap.size w W) => ixCaseM sd.cases id (w.heap.size + 1) a4 c4 W hok.cl (hM.c.grow hb))
  generalize hQ : AnsEnd true (From w.heap.size) (caseOut sd.cases id).ds (caseCode sd.cases id) w = Q
  have HQ := Lib.hid hQ
  have hcl := hok.cl
  clear hm hM hC e2 hQ hok
  go_enter Tryz.func14, Tryz.ntmps14
  go_upto_region 1 with fail
  have hid : (((w.alloc (.cells #[.int .i64 sd.clock, .string sd.secret, .slice a1 sd.users.length c1, .slice a2 sd.roles.length c2, .slice a3 sd.models.length c3, .slice a4 sd.cases.length c4, .slice a5 sd.timers.length c5, .slice a6 sd.works.length c6, .slice a7 sd.audit.length c7, .slice a8 sd.sess.length c8, .int .i64 sd.nc, .int .i64 sd.nw, .int .i64 sd.np, .int .i64 sd.nt] 35)).alloc (.cells #[.int .i64 id] 3)).alloc (.cells #[.int .i64 0, .string ⟨#[]⟩, .int .i64 0, .slice none 0 0, .slice none 0 0, .slice none 0 0, .slice none 0 0] 64)).cell? ⟨w.heap.size + 1, 0, none⟩ = some (.int .i64 id) := by go_simp
  revert HB0 hid
  generalize (((w.alloc (.cells #[.int .i64 sd.clock, .string sd.secret, .slice a1 sd.users.length c1, .slice a2 sd.roles.length c2, .slice a3 sd.models.length c3, .slice a4 sd.cases.length c4, .slice a5 sd.timers.length c5, .slice a6 sd.works.length c6, .slice a7 sd.audit.length c7, .slice a8 sd.sess.length c8, .int .i64 sd.nc, .int .i64 sd.nw, .int .i64 sd.np, .int .i64 sd.nt] 35)).alloc (.cells #[.int .i64 id] 3)).alloc (.cells #[.int .i64 0, .string ⟨#[]⟩, .int .i64 0, .slice none 0 0, .slice none 0 0, .slice none 0 0, .slice none 0 0] 64)) = W0
  intro HB0 hid
  have HI := Lib.hid (HIX.out W0 HB0.out.below hid)
  clear hid HIX
  have k5 := HB0.out.cp 5 _ rfl
  go_wp2_with fail
  refine HI.out.mono ?_
  rintro e W1 ⟨rfl, hb1⟩
  have HB1 := Lib.hid (HB0.out.call hb1)
  clear HI k5 HB0 hb1
  rcases ix_cases (fun c : CaseD => c.id == id) sd.cases with ⟨m, hmm, hix, -⟩ | hix
  · have hix' : caseIx sd.cases id = (m : Int) := hix
    obtain ⟨ho1, ho2⟩ := caseOut_hit hmm hix'
    rw [ho1, ho2] at HQ
    rw [hix']
    clear hix hix' ho1 ho2
    obtain ⟨d1, x1, d2, x2, d3, x3, d4, x4, rfl, hbl, hCM, hcell⟩ := rec_row HC.out hmm
    have k5 := HB1.out.cp 5 _ rfl
    have i1 : (m : Int) < (sd.cases.length : Int) := by omega
    have i2 : (0 : Int) ≤ (m : Int) := by omega
    have i3 : ¬ (m : Int) < 0 := by omega
    have r0 : W1.cell? ⟨b, off + m * 7, none⟩ = some (.int .i64 sd.cases[m].id) := cellBelow2 HB1.out.below (hcell 0 _ rfl)
    have r1 : W1.cell? ⟨b, off + m * 7 + 1, none⟩ = some (.string sd.cases[m].model) := cellBelow2 HB1.out.below (hcell 1 _ rfl)
    have r2 : W1.cell? ⟨b, off + m * 7 + 2, none⟩ = some (.int .i64 sd.cases[m].version) := cellBelow2 HB1.out.below (hcell 2 _ rfl)
    have r3 : W1.cell? ⟨b, off + m * 7 + 3, none⟩ = some (.slice d1 sd.cases[m].values.length x1) := cellBelow2 HB1.out.below (hcell 3 _ rfl)
    have r4 : W1.cell? ⟨b, off + m * 7 + 4, none⟩ = some (.slice d2 sd.cases[m].opn.length x2) := cellBelow2 HB1.out.below (hcell 4 _ rfl)
    have r5 : W1.cell? ⟨b, off + m * 7 + 5, none⟩ = some (.slice d3 sd.cases[m].done.length x3) := cellBelow2 HB1.out.below (hcell 5 _ rfl)
    have r6 : W1.cell? ⟨b, off + m * 7 + 6, none⟩ = some (.slice d4 sd.cases[m].acted.length x4) := cellBelow2 HB1.out.below (hcell 6 _ rfl)
    have HCM := Lib.hid hCM
    have HOK := Lib.hid (HCO.out _ (List.getElem_mem hmm))
    have HBX := Lib.hid (ownBox W1 #[.int .i64 sd.cases[m].id, .string sd.cases[m].model, .int .i64 sd.cases[m].version, .slice d1 sd.cases[m].values.length x1, .slice d2 sd.cases[m].opn.length x2, .slice d3 sd.cases[m].done.length x3, .slice d4 sd.cases[m].acted.length x4] 64 7 W1.heap.size (Nat.le_refl _) rfl)
    have HB2 := Lib.hid (HB1.out.call ((Below.refl _ _).alloc (Nat.le_refl _) (.cells #[.int .i64 sd.cases[m].id, .string sd.cases[m].model, .int .i64 sd.cases[m].version, .slice d1 sd.cases[m].values.length x1, .slice d2 sd.cases[m].opn.length x2, .slice d3 sd.cases[m].done.length x3, .slice d4 sd.cases[m].acted.length x4] 64)))
    have HRL := Lib.hid HB1.out.lt
    have HW2 : Hid ((W1.alloc (.cells #[.int .i64 sd.cases[m].id, .string sd.cases[m].model, .int .i64 sd.cases[m].version, .slice d1 sd.cases[m].values.length x1, .slice d2 sd.cases[m].opn.length x2, .slice d3 sd.cases[m].done.length x3, .slice d4 sd.cases[m].acted.length x4] 64)).heap.size = W1.heap.size + 1) := by show _ = _; simp
    clear hCM hcell hbl
    go_upto_region 5 with fail
    clear k5 r0 r1 r2 r3 r4 r5 r6
    revert HBX HB2 HRL HW2
    generalize W1.alloc (.cells #[.int .i64 sd.cases[m].id, .string sd.cases[m].model, .int .i64 sd.cases[m].version, .slice d1 sd.cases[m].values.length x1, .slice d2 sd.cases[m].opn.length x2, .slice d3 sd.cases[m].done.length x3, .slice d4 sd.cases[m].acted.length x4] 64) = W2
    generalize W1.heap.size = g
    intro HBX HB2 HRL HW2
    have HOW := Lib.hid (ownM sd.cases[m] HOK.out g d1 x1 d2 x2 d3 x3 d4 x4 W2 (HCM.out.grow HB2.out.below) ⟨Below.refl _ _, HBX.out.cellAt 3 rfl, HBX.out.cellAt 4 rfl, HBX.out.cellAt 5 rfl, HBX.out.cellAt 6 rfl, fun j => HBX.out.frozenAt j⟩)
    go_wp2_with fail
    refine HOW.out.mono ?_
    rintro e W3 ⟨rfl, va1, vc1, va2, vc2, va3, vc3, va4, vc4, W, hb3, hCM3, rfl⟩
    have HB4 := Lib.hid (((((HB2.out.call hb3).far HRL.out 3 (.slice va1 sd.cases[m].values.length vc1)).far HRL.out 4 (.slice va2 sd.cases[m].opn.length vc2)).far HRL.out 5 (.slice va3 sd.cases[m].done.length vc3)).far HRL.out 6 (.slice va4 sd.cases[m].acted.length vc4))
    have HX4 := Lib.hid (((((HBX.out.below hb3 (Nat.le_of_lt_succ (by rw [HW2.out]; omega))).set (j := 3) (.slice va1 sd.cases[m].values.length vc1)).set (j := 4) (.slice va2 sd.cases[m].opn.length vc2)).set (j := 5) (.slice va3 sd.cases[m].done.length vc3)).set (j := 6) (.slice va4 sd.cases[m].acted.length vc4))
    have hgl : g < W2.heap.size := by rw [HW2.out]; omega
    have hrl : w.heap.size + 1 + 1 < W2.heap.size := by have := HRL.out; omega
    have hD := ((((caseM_ds hCM3).far hgl 3 (.slice va1 sd.cases[m].values.length vc1)).far hgl 4 (.slice va2 sd.cases[m].opn.length vc2)).far hgl 5 (.slice va3 sd.cases[m].done.length vc3)).far hgl 6 (.slice va4 sd.cases[m].acted.length vc4)
    have hD2 := ((((((hD.far hrl 0 (.int .i64 sd.cases[m].id)).far hrl 1 (.string sd.cases[m].model)).far hrl 2 (.int .i64 sd.cases[m].version)).far hrl 3 (.slice va1 sd.cases[m].values.length vc1)).far hrl 4 (.slice va2 sd.cases[m].opn.length vc2)).far hrl 5 (.slice va3 sd.cases[m].done.length vc3)).far hrl 6 (.slice va4 sd.cases[m].acted.length vc4)
    have HD := Lib.hid hD2
    have HG := Lib.hid hrl
    clear hD hD2 hCM3 hb3 HOW hgl hrl
    revert HB4 HX4 HD
    generalize ((((W.setCell ⟨g, 3, none⟩ (.slice va1 sd.cases[m].values.length vc1)).setCell ⟨g, 4, none⟩ (.slice va2 sd.cases[m].opn.length vc2)).setCell ⟨g, 5, none⟩ (.slice va3 sd.cases[m].done.length vc3)).setCell ⟨g, 6, none⟩ (.slice va4 sd.cases[m].acted.length vc4)) = W5
    intro HB4 HX4 HD
    have s0 := HX4.out.cellAt 0 rfl
    have s1 := HX4.out.cellAt 1 rfl
    have s2 := HX4.out.cellAt 2 rfl
    have s3 := HX4.out.cellAt 3 rfl
    have s4 := HX4.out.cellAt 4 rfl
    have s5 := HX4.out.cellAt 5 rfl
    have s6 := HX4.out.cellAt 6 rfl
    have q0 := HB4.out.cq 0 _ rfl
    have q1 := HB4.out.cq 1 _ rfl
    have q2 := HB4.out.cq 2 _ rfl
    have q3 := HB4.out.cq 3 _ rfl
    have q4 := HB4.out.cq 4 _ rfl
    have q5 := HB4.out.cq 5 _ rfl
    have q6 := HB4.out.cq 6 _ rfl
    have hf := HB4.out.fq
    go_wp2_with fail
    have h7 := ((((((HB4.out.setQ 0 (.int .i64 sd.cases[m].id)).setQ 1 (.string sd.cases[m].model)).setQ 2 (.int .i64 sd.cases[m].version)).setQ 3 (.slice va1 sd.cases[m].values.length vc1)).setQ 4 (.slice va2 sd.cases[m].opn.length vc2)).setQ 5 (.slice va3 sd.cases[m].done.length vc3)).setQ 6 (.slice va4 sd.cases[m].acted.length vc4)
    refine ret_stCase (r := w.heap.size + 1 + 1) rfl rfl rfl (h7.cq 0 _ rfl) (h7.cq 1 _ rfl) (h7.cq 2 _ rfl) (h7.cq 3 _ rfl) (h7.cq 4 _ rfl) (h7.cq 5 _ rfl) (h7.cq 6 _ rfl) ?_
    rw [← HQ.out]
    exact ⟨_, rfl, HD.out.weak fun b hb _ => by have : W2.heap.size ≤ b := hb; have := HG.out; show w.heap.size ≤ b; omega, h7.below⟩
  · have hix' : caseIx sd.cases id = -1 := hix
    obtain ⟨ho1, ho2⟩ := caseOut_miss hix'
    rw [ho1, ho2] at HQ
    rw [hix']
    clear hix hix' ho1 ho2
    have q0 := HB1.out.cq 0 _ rfl
    have q1 := HB1.out.cq 1 _ rfl
    have q2 := HB1.out.cq 2 _ rfl
    have q3 := HB1.out.cq 3 _ rfl
    have q4 := HB1.out.cq 4 _ rfl
    have q5 := HB1.out.cq 5 _ rfl
    have q6 := HB1.out.cq 6 _ rfl
    have hf := HB1.out.fq
    go_wp2_with fail
    have h7 := ((((((HB1.out.setQ 0 (.int .i64 0)).setQ 1 (.string ⟨#[]⟩)).setQ 2 (.int .i64 0)).setQ 3 (.slice none 0 0)).setQ 4 (.slice none 0 0)).setQ 5 (.slice none 0 0)).setQ 6 (.slice none 0 0)
    refine ret_stCase (r := w.heap.size + 1 + 1) rfl rfl rfl (h7.cq 0 _ rfl) (h7.cq 1 _ rfl) (h7.cq 2 _ rfl) (h7.cq 3 _ rfl) (h7.cq 4 _ rfl) (h7.cq 5 _ rfl) (h7.cq 6 _ rfl) ?_
    rw [← HQ.out]
    exact ⟨_, rfl, zeroCase_mem _ _ _, h7.below⟩
end Go.Proofs.YtinijohmdljieaaGreatDoor
