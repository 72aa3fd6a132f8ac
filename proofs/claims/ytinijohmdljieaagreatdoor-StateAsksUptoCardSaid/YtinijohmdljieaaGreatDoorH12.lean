/- Which model, which case: what is told of a list, in plain words. Two boxes of two types; docketref24.User, docketref24.Case. -/
import Derived.Test.YtinijohmdljieaaGreatDoorH07
import Derived.Test.YtinijohmdljieaaGreatDoorPB
import Derived.Lib.SlBy
namespace Go.Proofs.YtinijohmdljieaaGreatDoor
open Go.RowKit

/-- a model may be taken -/
def takes (l : List VerD) (name : ByteArray) (ver f : Int) (v : VerD) : Prop := (v.m.name.toList == name.toList) = true ∧ ((ver = 0 ∧ (f < 0 ∨ ∃ g, l[f.toNat]? = some g ∧ g.v < v.v)) ∨ (ver ≠ 0 ∧ v.v = ver ∧ f < 0))
open Classical in
/-- what has been found behind m models -/
noncomputable def pick (l : List VerD) (name : ByteArray) (ver : Int) : Nat → Int
  | 0 => -1
  | m + 1 => match l[m]? with
    | none => pick l name ver m
    | some v => if takes l name ver (pick l name ver m) v then (m : Int) else pick l name ver m
theorem pick_lt (l : List VerD) (name : ByteArray) (ver : Int) : ∀ m, -1 ≤ pick l name ver m ∧ pick l name ver m < m ∧ pick l name ver m < l.length
  | 0 => by simp only [pick]; omega
  | m + 1 => by
    have ih := pick_lt l name ver m
    simp only [pick]
    cases h : l[m]? with
    | none => simp only; omega
    | some v =>
      have hm : m < l.length := by
        rcases Nat.lt_or_ge m l.length with h1 | h1
        · exact h1
        · rw [List.getElem?_eq_none h1] at h; cases h
      simp only
      split <;> omega
theorem pick_yes {l : List VerD} {name : ByteArray} {ver : Int} {m : Nat} (hm : m < l.length) (h : takes l name ver (pick l name ver m) l[m]) : pick l name ver (m + 1) = m := by
  simp only [pick, List.getElem?_eq_getElem hm, if_pos h]
theorem pick_no {l : List VerD} {name : ByteArray} {ver : Int} {m : Nat} (hm : m < l.length) (h : ¬ takes l name ver (pick l name ver m) l[m]) : pick l name ver (m + 1) = pick l name ver m := by
  simp only [pick, List.getElem?_eq_getElem hm, if_neg h]
/-- one that is found by its version stays -/
theorem pick_stay {l : List VerD} {name : ByteArray} {ver : Int} (hv : ver ≠ 0) {m : Nat} (h : 0 ≤ pick l name ver m) : ∀ k, pick l name ver (m + k) = pick l name ver m
  | 0 => rfl
  | k + 1 => by
    rw [← Nat.add_assoc]
    have ih := pick_stay hv h k
    rcases Nat.lt_or_ge (m + k) l.length with h1 | h1
    · rw [pick_no h1, ih]
      rintro ⟨-, ⟨h2, -⟩ | ⟨-, -, h2⟩⟩
      · exact hv h2
      · rw [ih] at h2; omega
    · simp only [pick, List.getElem?_eq_none h1, ih]
theorem pick_found {l : List VerD} {name : ByteArray} {ver : Int} (hv : ver ≠ 0) {m : Nat} (hm : m ≤ l.length) (h : 0 ≤ pick l name ver m) : pick l name ver l.length = pick l name ver m := by
  have := pick_stay hv h (l.length - m)
  rwa [show m + (l.length - m) = l.length by omega] at this
def zeroM : ModelD := ⟨⟨#[]⟩, [], [], [], [], []⟩
def zeroVer : VerD := ⟨zeroM, 0⟩
def zeroCase : CaseD := ⟨0, ⟨#[]⟩, 0, [], [], [], []⟩
def zeroUser : UserD := ⟨⟨#[]⟩, ⟨#[]⟩, ⟨#[]⟩, []⟩
/-- the answer: a version and a code -/
noncomputable def verOf (l : List VerD) (name : ByteArray) (ver : Int) : VerD := if pick l name ver l.length < 0 then zeroVer else (l[(pick l name ver l.length).toNat]?).getD zeroVer
/-- the first record of a number -/
def caseAt (l : List CaseD) (id : Int) : Option Nat := l.findIdx? fun c => c.id == id
/-- the first user of a name -/
def userAt (l : List UserD) (name : ByteArray) : Option Nat := l.findIdx? fun u => u.n == name
end Go.Proofs.YtinijohmdljieaaGreatDoor

namespace Go.Proofs.YtinijohmdljieaaGreatDoor
open Go.RowKit

structure BB (E : TypeId) (k : Nat) (E2 : TypeId) (k2 : Nat) (w W : World) (x y : List Value) : Prop where
  p : Own W w.heap.size E k (some ⟨w.heap.size, 0, none⟩) 1 1 x
  q : Own W w.heap.size E2 k2 (some ⟨w.heap.size + 1, 0, none⟩) 1 1 y
  below : Below w.heap.size w W
section
variable {E : TypeId} {k : Nat} {E2 : TypeId} {k2 : Nat} {w W W' : World} {x y : List Value}
theorem BB.lt (h : BB E k E2 k2 w W x y) : w.heap.size + 1 < W.heap.size := (h.q.lt rfl).2
theorem BB.call (h : BB E k E2 k2 w W x y) (hb : Below W.heap.size W W') : BB E k E2 k2 w W' x y :=
  ⟨h.p.below hb (Nat.le_refl _), h.q.below hb (Nat.le_refl _), h.below.trans (hb.mono h.below.size)⟩
theorem BB.cp (h : BB E k E2 k2 w W x y) (j : Nat) (v : Value) (hj : x[j]? = some v) : W.cell? ⟨w.heap.size, j, none⟩ = some v := h.p.cellAt j hj
theorem BB.cq (h : BB E k E2 k2 w W x y) (j : Nat) (v : Value) (hj : y[j]? = some v) : W.cell? ⟨w.heap.size + 1, j, none⟩ = some v := h.q.cellAt j hj
theorem BB.fq (h : BB E k E2 k2 w W x y) (j : Nat) : W.frozen? ⟨w.heap.size + 1, j, none⟩ = false := h.q.frozenAt j
theorem BB.setQ (h : BB E k E2 k2 w W x y) (j : Nat) (v : Value) : BB E k E2 k2 w (W.setCell ⟨w.heap.size + 1, j, none⟩ v) x (y.set j v) :=
  ⟨h.p.setCell (a := ⟨w.heap.size + 1, j, none⟩) (fun g hg => by cases hg; show _ ≠ w.heap.size + 1; omega) v, h.q.set v, h.below.setCell (p := ⟨w.heap.size + 1, j, none⟩) (by show w.heap.size ≤ w.heap.size + 1; omega) v⟩
theorem BB.start (w : World) (E : TypeId) (k : Nat) (E2 : TypeId) (k2 : Nat) (x y : Array Value) (hx : x.size = k) (hy : y.size = k2) : BB E k E2 k2 w ((w.alloc (.cells x E)).alloc (.cells y E2)) x.toList y.toList := by
  have e1 : (w.alloc (.cells x E)).heap.size = w.heap.size + 1 := by simp
  have h2 := ownBox (w.alloc (.cells x E)) y E2 k2 w.heap.size (by omega) hy
  rw [e1] at h2
  exact ⟨(ownBox w x E k _ (Nat.le_refl _) hx).alloc _, h2, ((Below.refl _ _).alloc (Nat.le_refl _) _).alloc (by omega) _⟩
end
instance : Inhabited UserD := ⟨zeroUser⟩
instance : Inhabited CaseD := ⟨zeroCase⟩
/-- the number of the user of a name, of the case of a number; -1: none -/
def userIx (l : List UserD) (name : ByteArray) : Int := Lib.idxBy (fun _ u => u.n.toList == name.toList) l default
def caseIx (l : List CaseD) (id : Int) : Int := Lib.idxBy (fun _ c => c.id == id) l default
theorem ix_hit {α : Type} [Inhabited α] (q : α → Bool) (l : List α) (m : Nat) (hm : m < l.length) (h : q l[m] = true) (hn : ∀ j (hj : j < l.length), j < m → q l[j] = false) : Lib.idxBy (fun _ y => q y) l default = m := by
  have := Lib.idxBy_hit (fun _ y => q y) l l.length m default hm (Nat.le_refl _) (by show q l[m]! = true; rw [getElem!_pos l m hm]; exact h) (fun j hj => by show q l[j]! = false; rw [getElem!_pos l j (by omega)]; exact hn j (by omega) hj)
  rwa [List.take_length] at this
theorem ix_miss {α : Type} [Inhabited α] (q : α → Bool) (l : List α) (hn : ∀ j (hj : j < l.length), q l[j] = false) : Lib.idxBy (fun _ y => q y) l default = -1 := by
  have := Lib.idxBy_miss (fun _ y => q y) l l.length default (fun j hj => by show q l[j]! = false; rw [getElem!_pos l j hj]; exact hn j hj)
  rwa [List.take_length] at this
/-- one or the other -/
theorem ix_cases {α : Type} [Inhabited α] (q : α → Bool) (l : List α) : (∃ m, ∃ hm : m < l.length, Lib.idxBy (fun _ y => q y) l default = (m : Int) ∧ q l[m] = true) ∨ (Lib.idxBy (fun _ y => q y) l default = -1) := by
  by_cases h : ∃ m, ∃ hm : m < l.length, q l[m] = true
  · have hx : ∃ m, (∃ hm : m < l.length, q l[m] = true) ∧ ∀ j, j < m → ¬ ∃ hj : j < l.length, q l[j] = true := by
      obtain ⟨m, hm⟩ := h
      induction m using Nat.strongRecOn with
      | ind m ih =>
        by_cases hj : ∃ j, j < m ∧ ∃ hj : j < l.length, q l[j] = true
        · obtain ⟨j, hj1, hj2⟩ := hj
          exact ih j hj1 hj2
        · exact ⟨m, hm, fun j hj1 hj2 => hj ⟨j, hj1, hj2⟩⟩
    obtain ⟨m, ⟨hm, hq⟩, hn⟩ := hx
    refine .inl ⟨m, hm, ix_hit q l m hm hq fun j hj hlt => ?_, hq⟩
    cases hqj : q l[j] with
    | true => exact absurd ⟨hj, hqj⟩ (hn j hlt)
    | false => rfl
  · refine .inr (ix_miss q l fun j hj => ?_)
    cases hqj : q l[j] with
    | true => exact absurd ⟨j, hj, hqj⟩ h
    | false => rfl
/-- the answers -/
def caseOut (l : List CaseD) (id : Int) : CaseD := if caseIx l id < 0 then zeroCase else (l[(caseIx l id).toNat]?).getD zeroCase
def caseCode (l : List CaseD) (id : Int) : Int := if caseIx l id < 0 then 6 else 0
theorem caseOut_hit {l : List CaseD} {id : Int} {m : Nat} (hm : m < l.length) (h : caseIx l id = m) : caseOut l id = l[m] ∧ caseCode l id = 0 := by
  unfold caseOut caseCode
  rw [h, if_neg (by omega), if_neg (by omega), Int.toNat_natCast, List.getElem?_eq_getElem hm]
  exact ⟨rfl, rfl⟩
theorem caseOut_miss {l : List CaseD} {id : Int} (h : caseIx l id = -1) : caseOut l id = zeroCase ∧ caseCode l id = 6 := by
  unfold caseOut caseCode
  rw [h, if_pos (by omega), if_pos (by omega)]
  exact ⟨rfl, rfl⟩
theorem nil_mem (o : Bool) (P : Nat → Prop) (w : World) (k : Nat) : Mem o P w (.list k []) (.slice none 0 0) :=
  .list k [] [] none 0 0 0 rfl (Nat.le_refl _) (fun h => absurd h (by simp)) (fun j v h => absurd h (by simp)) (fun j v h => absurd h (by simp)) (fun j v i u h => absurd h (by simp)) (fun j v e i u d h => absurd h (by simp))
theorem zeroCase_mem (o : Bool) (P : Nat → Prop) (w : World) : MemL o P w zeroCase.ds caseZ :=
  .cons (.atom _) (.cons (.atom _) (.cons (.atom _) (.cons (nil_mem o P w 6) (.cons (nil_mem o P w 1) (.cons (nil_mem o P w 1) (.cons (nil_mem o P w 2) (MemL.nil _ _ _)))))))
theorem zeroUser_mem (o : Bool) (P : Nat → Prop) (w : World) : MemL o P w zeroUser.ds [.string ⟨#[]⟩, .string ⟨#[]⟩, .string ⟨#[]⟩, .slice none 0 0] :=
  .cons (.atom _) (.cons (.atom _) (.cons (.atom _) (.cons (nil_mem o P w 1) (MemL.nil _ _ _))))
theorem zeroVer_mem (o : Bool) (P : Nat → Prop) (w : World) : MemL o P w zeroVer.ds [.string ⟨#[]⟩, .slice none 0 0, .slice none 0 0, .slice none 0 0, .slice none 0 0, .slice none 0 0, .int .i64 0] :=
  .cons (.atom _) (.cons (nil_mem o P w 2) (.cons (nil_mem o P w 1) (.cons (nil_mem o P w 7) (.cons (nil_mem o P w 3) (.cons (nil_mem o P w 2) (.cons (.atom _) (MemL.nil _ _ _)))))))
/-- an answer and a code: how a copy, a look ends -/
def AnsEnd (o : Bool) (P : Nat → Prop) (ds : List D) (c : Int) (w : World) (e : Ending) (w' : World) : Prop := ∃ us, e = .returned (.tuple #[.agg us.toArray, .int .i64 c]) ∧ MemL o P w' ds us ∧ Below w.heap.size w w'
set_option maxHeartbeats 8000000 in
set_option maxRecDepth 100000 in
theorem refUser (sd : StateD) (us : List Value) (name : ByteArray) (w : World) (hl : sd.users.length ≤ 1048576) (hm : MemL false (From 0) w sd.ds us) : Calls Tryz.prog 43 #[.agg us.toArray, .string name] w fun e w' => e = .returned (.int .i64 (userIx sd.users name)) ∧ Below w.heap.size w w' := by
  obtain ⟨a1, c1, a2, c2, a3, c3, a4, c4, a5, c5, a6, c6, a7, c7, a8, c8, rfl, hM⟩ := StateD.cells hm
  obtain ⟨_, _, b, off, hv, -, hC⟩ := rec_open hM.u
  injection hv with e1 e2 e3
  subst e1 e3
  have HB0 := Lib.hid (B1.start w 35 14 #[.int .i64 sd.clock, .string sd.secret, .slice a1 sd.users.length c1, .slice a2 sd.roles.length c2, .slice a3 sd.models.length c3, .slice a4 sd.cases.length c4, .slice a5 sd.timers.length c5, .slice a6 sd.works.length c6, .slice a7 sd.audit.length c7, .slice a8 sd.sess.length c8, .int .i64 sd.nc, .int .i64 sd.nw, .int .i64 sd.np, .int .i64 sd.nt] rfl)
  have HC := Lib.hid hC
  generalize hr : userIx sd.users name = r
  have HR := Lib.hid hr
  clear hm hM hC e2 hr
  go_enter Tryz.func43, Tryz.ntmps43
  go_upto_region 1 with fail
  revert HB0
  generalize w.alloc (.cells #[.int .i64 sd.clock, .string sd.secret, .slice a1 sd.users.length c1, .slice a2 sd.roles.length c2, .slice a3 sd.models.length c3, .slice a4 sd.cases.length c4, .slice a5 sd.timers.length c5, .slice a6 sd.works.length c6, .slice a7 sd.audit.length c7, .slice a8 sd.sess.length c8, .int .i64 sd.nc, .int .i64 sd.nw, .int .i64 sd.np, .int .i64 sd.nt] 35) = W0
  intro HB0
  have k2 := HB0.out.cp 2 _ rfl
  go_wp2_with fail
  go_loopw [5] (fun i wr => ∃ m : Nat, m ≤ sd.users.length ∧ i = .int .i64 (m : Int) ∧ wr = W0 ∧ Hid (∀ j (hj : j < sd.users.length), j < m → (sd.users[j].n.toList == name.toList) = false)) (fun i _ => sd.users.length - (intOf i).toNat)
  case atStart => exact ⟨0, Nat.zero_le _, rfl, rfl, fun j _ h => absurd h (Nat.not_lt_zero _)⟩
  case round =>
    obtain ⟨m, hml, rfl, rfl, HN⟩ := hrel
    by_cases hlt : m < sd.users.length
    · have i1 : (m : Int) < (sd.users.length : Int) := by omega
      have i2 : (0 : Int) ≤ (m : Int) := by omega
      have HML := Lib.hid hlt
      obtain ⟨rfl, -, hbl⟩ := HC.out.at0 (by omega)
      obtain ⟨us, hus, hcell⟩ := HC.out.row m hlt
      obtain ⟨xa, xc, hu, -⟩ := UserD.cells hus
      subst hu
      have c0 : wr.cell? ⟨b, off + m * 4, none⟩ = some (.string sd.users[m].n) := cellBelow2 HB0.out.below (hcell 0 _ rfl)
      clear hus hcell
      cases hq : sd.users[m].n.toList == name.toList with
      | true =>
        have hrm : r = (m : Int) := by rw [← HR.out]; exact ix_hit (fun u => u.n.toList == name.toList) sd.users m hlt hq fun j hj hjm => HN.out j hj hjm
        go_wp2_with fail
        go_ret
        exact ⟨by first | rfl | (rw [hrm]; rfl), HB0.out.below⟩
      | false =>
        have wr1 : IntKind.i64.wrap ((m : Int) + 1) = (m : Int) + 1 := wrap_i64 (by omega) (by omega)
        have HQ := Lib.hid hq
        go_wp2_with fail
        refine ⟨⟨m + 1, by omega, by go_num, by first | trivial | rfl, (show Hid _ from fun j hj hjm => ?_)⟩, by simp only [intOf]; have := HML.out; omega⟩
        rcases Nat.lt_or_ge j m with h1 | h1
        · exact HN.out j hj h1
        · obtain rfl : j = m := by omega
          exact HQ.out
    · obtain rfl : m = sd.users.length := by omega
      have i1 : ¬ (sd.users.length : Int) < (sd.users.length : Int) := by omega
      have hrm : r = -1 := by rw [← HR.out]; exact ix_miss (fun u => u.n.toList == name.toList) sd.users fun j hj => HN.out j hj hj
      go_wp2_with fail
      go_ret
      exact ⟨by first | rfl | (rw [hrm]; rfl), HB0.out.below⟩
end Go.Proofs.YtinijohmdljieaaGreatDoor
