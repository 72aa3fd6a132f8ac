/- Sessions that are the same; the user of a name: what package state asks of package slices. package state: Whose. -/
import Derived.Test.YtinijohmdljieaaGreatDoorH13
import Derived.Test.YtinijohmdljieaaGreatDoorRefRead
import Derived.Laws.StructEq
namespace Go.Proofs.YtinijohmdljieaaGreatDoor
open Go.RowKit

/-- two sessions are the same -/
def sEq (x y : SessD) : Bool := x.id == y.id && (x.user.toList == y.user.toList && x.till == y.till)
theorem sEq_comm (x y : SessD) : sEq x y = sEq y x := by
  unfold sEq
  rw [show (x.id == y.id) = (y.id == x.id) from BEq.comm, show (x.user.toList == y.user.toList) = (y.user.toList == x.user.toList) from BEq.comm, show (x.till == y.till) = (y.till == x.till) from BEq.comm]
instance : Inhabited SessD := ⟨⟨0, ⟨#[]⟩, 0⟩⟩
theorem eqSess : EqlAt Tryz.prog 90 (fun x => .agg (SessD.cs x).toArray) sEq := by
  refine ⟨fun x y w => ?_, GuardAt.agg _ (by kernel_rfl)⟩
  have u9 := Tryz.underlying9
  have a9 := Tryz.isAgg9
  have z9 := Tryz.sizeOf9
  have u3 := Tryz.underlying3
  have a3 := Tryz.isAgg3
  have z3 := Tryz.sizeOf3
  have hS : Tryz.prog.underlying 90 = some (.struct (Tryz.prog.fieldsOf 90)) := by kernel_rfl
  have hp : Tryz.prog.stoodInHeld 90 = false := by kernel_rfl
  simp only [SessD.cs]
  rw [run_eql_struct, show (10000 : Nat) = 9999 + 1 from rfl, run_equalIn_agg w 9999 90 _ _ hS hp]
  simp only [Program.fieldsOf, Tryz.underlying90]
  go_simp
  by_cases h1 : x.id = y.id <;> by_cases h2 : x.user.toList = y.user.toList <;> by_cases h3 : x.till = y.till <;> simp [h1, h2, h3, sEq]
set_option maxHeartbeats 2000000 in
set_option maxRecDepth 100000 in
theorem containsSess (l : List SessD) (x : SessD) (a : Option Addr) (c : Nat) (w : World) (hl : l.length ≤ 1048576) (h : Mem false (From 0) w (flatL 3 SessD.cs l) (.slice a l.length c)) :
    Calls Tryz.prog 40 #[.slice a l.length c, .agg #[.int .i64 x.id, .string x.user, .int .i64 x.till]] w fun e w' => e = .returned (.bool (l.any (sEq x))) ∧ Below w.heap.size w w' := by
  obtain ⟨_, _, b, off, hv, -, hC⟩ := flat_open h
  injection hv with e1 e2 e3
  subst e1 e3
  by_cases h0 : 0 < l.length
  · obtain ⟨rfl, -, -⟩ := hC.at0 h0
    have hc := AnyQ.slices_Contains Tryz.inSession 3 Tryz.isAgg90 Tryz.sizeOf90 SessD.cs (fun _ => rfl) sEq eqSess b off l.length c l x w (Nat.le_refl _) (by omega) (fun j hj i v hi => by
      rw [getElem!_pos l j hj] at hi
      exact hC.cell j hj i v hi)
    rw [List.take_length] at hc
    exact hc
  · have : l = [] := List.eq_nil_of_length_eq_zero (by omega)
    subst this
    clear h hC
    simp only [List.length_nil, List.any_nil]
    go_enter Tryz.func40, Tryz.ntmps40
    go_wp2
    refine wp_loop_rounds 1 ?_
    rw [rounds_succ]
    go_wp2
    go_ret
    exact ⟨rfl, ((Below.refl _ _).alloc (Nat.le_refl _) _).alloc (by simp) _⟩
structure URow where
  n : ByteArray
  s : ByteArray
  p : ByteArray
  x : Value
def URow.cs (r : URow) : List Value := [.string r.n, .string r.s, .string r.p, r.x]
instance : Inhabited URow := ⟨⟨⟨#[]⟩, ⟨#[]⟩, ⟨#[]⟩, undef⟩⟩
set_option maxHeartbeats 2000000 in
set_option maxRecDepth 100000 in
theorem userClosure (name : ByteArray) (B : Nat) (w : World) (hB : B < w.heap.size) (hcell : w.cell? ⟨B, 1, none⟩ = some (.string name)) : PredBelow Tryz.prog 39 #[.pointer (some ⟨B, 0, none⟩)] (fun x => .agg (URow.cs x).toArray) (fun x => x.n.toList == name.toList) w := fun W x hb => by
  have hc : W.cell? ⟨B, 1, none⟩ = some (.string name) := (hb.cell (p := ⟨B, 1, none⟩) hB).trans hcell
  have hBW : B < W.heap.size := Nat.lt_of_lt_of_le hB hb.size
  have hne : B ≠ W.heap.size := by omega
  show Calls Tryz.prog 39 #[.agg #[.string x.n, .string x.s, .string x.p, x.x], .pointer (some ⟨B, 0, none⟩)] W _
  go_enter Tryz.func39, Tryz.ntmps39
  go_wp2_with fail
  go_ret
  exact ⟨rfl, hb.alloc hb.size _⟩
set_option maxHeartbeats 4000000 in
set_option maxRecDepth 100000 in
theorem ixUserM (l : List UserD) (name : ByteArray) (B : Nat) (a : Option Addr) (c : Nat) (w : World) (hl : l.length ≤ 1048576) (h : Mem false (From 0) w (.list 4 (l.map UserD.ds)) (.slice a l.length c)) (hg : w.cell? ⟨B, 1, none⟩ = some (.string name)) :
    Calls Tryz.prog 38 #[.slice a l.length c, .func (.func 39) #[] #[.pointer (some ⟨B, 0, none⟩)]] w fun e w' => e = .returned (.int .i64 (userIx l name)) ∧ Below w.heap.size w w' := by
  obtain ⟨_, _, b, off, hv, -, hC⟩ := rec_open h
  injection hv with e1 e2 e3
  subst e1 e3
  by_cases h0 : l.length = 0
  · have hnil : l = [] := List.eq_nil_of_length_eq_zero h0
    subst hnil
    clear h hC hg
    go_enter Tryz.func38, Tryz.ntmps38
    go_wp2_with fail
    go_loopw [8] (fun i wr => i = .int .i64 0 ∧ wr = w) (fun _ _ => 0)
    case atStart => exact ⟨rfl, rfl⟩
    case round =>
      obtain ⟨rfl, rfl⟩ := hrel
      go_wp2_with fail
      go_ret
      exact ⟨rfl, Below.refl _ _⟩
  · obtain ⟨rfl, -, hbl⟩ := hC.at0 (by omega)
    obtain ⟨zs, hzl, hz⟩ := list_of (fun (j : Nat) (x : URow) => ∀ (hj : j < l.length), x.n = l[j].n ∧ ∀ i v, x.cs[i]? = some v → w.cell? ⟨b, off + j * 4 + i, none⟩ = some v) l.length fun j hj => by
      obtain ⟨us, hus, hcell⟩ := hC.row j hj
      obtain ⟨xa, xc, hu, -⟩ := UserD.cells hus
      subst hu
      exact ⟨⟨l[j].n, l[j].s, l[j].p, .slice xa l[j].rs.length xc⟩, fun _ => ⟨rfl, fun i v hi => hcell i v hi⟩⟩
    have eg : ∀ args w, (callFunc 39 args).run Tryz.prog w = .ok (.enter 39 args) w := enters_of Tryz.func39 (by kernel_rfl) rfl
    have hcon := AnyQ.slices_IndexFunc Tryz.ixUser 4 Tryz.isAgg25 Tryz.sizeOf25 URow.cs (fun _ => rfl) (fun x => x.n.toList == name.toList) 39 #[.pointer (some ⟨B, 0, none⟩)] eg b off l.length c zs w
      (userClosure name B w (World.block_lt_of_cell? w _ hg) hg) (by omega) (by omega) hbl (fun j hj i v hi => (hz j (by omega) (by omega)).2 i v hi)
    have hix : Lib.idxBy (fun _ (y : URow) => y.n.toList == name.toList) (zs.take l.length) default = userIx l name := by
      rw [← hzl, List.take_length]
      refine idx_from (fun y : URow => y.n.toList == name.toList) (fun y : UserD => y.n.toList == name.toList) default default zs l 0 hzl fun j h1 h2 => ?_
      have := (hz j (by omega) h2).1
      rw [getElem!_pos zs j h1] at this
      rw [this]
    rw [hix] at hcon
    exact hcon
/-- a session as a record of the state -/
def sessOf (s : Sess) : SessD := ⟨s.id, ⟨s.user.toArray⟩, s.untl⟩
open Classical in
/-- whose a token is -/
noncomputable def whoseOut (sd : StateD) (s : Sess) (x : Int) : UserD := if x ≠ 0 ∨ userIx sd.users ⟨s.user.toArray⟩ < 0 ∨ sd.sess.any (sEq (sessOf s)) = false then zeroUser else (sd.users[(userIx sd.users ⟨s.user.toArray⟩).toNat]?).getD zeroUser
open Classical in
noncomputable def whoseCode (sd : StateD) (s : Sess) (x : Int) : Int := if x ≠ 0 then x else if userIx sd.users ⟨s.user.toArray⟩ < 0 ∨ sd.sess.any (sEq (sessOf s)) = false then 211 else 0
theorem whose_err {sd : StateD} {s : Sess} {x : Int} (h : x ≠ 0) : whoseOut sd s x = zeroUser ∧ whoseCode sd s x = x := by
  unfold whoseOut whoseCode
  rw [if_pos (.inl h), if_pos h]
  exact ⟨rfl, rfl⟩
theorem whose_no {sd : StateD} {s : Sess} (h : userIx sd.users ⟨s.user.toArray⟩ < 0 ∨ sd.sess.any (sEq (sessOf s)) = false) : whoseOut sd s 0 = zeroUser ∧ whoseCode sd s 0 = 211 := by
  unfold whoseOut whoseCode
  rw [if_pos (.inr h), if_neg (fun hx => hx rfl), if_pos h]
  exact ⟨rfl, rfl⟩
theorem whose_yes {sd : StateD} {s : Sess} {m : Nat} (hm : m < sd.users.length) (h : userIx sd.users ⟨s.user.toArray⟩ = m) (h2 : sd.sess.any (sEq (sessOf s)) = true) : whoseOut sd s 0 = sd.users[m] ∧ whoseCode sd s 0 = 0 := by
  unfold whoseOut whoseCode
  have hn : ¬ (userIx sd.users ⟨s.user.toArray⟩ < 0 ∨ sd.sess.any (sEq (sessOf s)) = false) := by
    rw [h, h2]; rintro (h | h)
    · omega
    · cases h
  rw [if_neg (fun hx => hx.elim (fun h => h rfl) hn), if_neg (fun hx => hx rfl), if_neg hn, h, Int.toNat_natCast, List.getElem?_eq_getElem hm]
  exact ⟨rfl, rfl⟩
theorem user_cases (l : List UserD) (name : ByteArray) : (∃ m, m < l.length ∧ userIx l name = (m : Int)) ∨ userIx l name = -1 := by
  rcases ix_cases (fun u : UserD => u.n.toList == name.toList) l with ⟨m, hm, h, -⟩ | h
  · exact .inl ⟨m, hm, h⟩
  · exact .inr h
end Go.Proofs.YtinijohmdljieaaGreatDoor

namespace Go.Proofs.YtinijohmdljieaaGreatDoor
open Go.RowKit

theorem ret_stWhose {r : Nat} {W : World} {a : Act} {u0 u1 u2 u3 v : Value} {R : Ending → World → Prop} (hp : a.tmps.getD 4 undef = .pointer (some ⟨r, 0, none⟩)) (hv : a.tmps.getD 5 undef = v) (hd : a.defers = [])
    (h0 : W.cell? ⟨r, 0, none⟩ = some u0) (h1 : W.cell? ⟨r, 1, none⟩ = some u1) (h2 : W.cell? ⟨r, 2, none⟩ = some u2) (h3 : W.cell? ⟨r, 3, none⟩ = some u3)
    (hR : R (.returned (.tuple #[.agg #[u0, u1, u2, u3], v])) W) : bodyPost Tryz.prog Tryz.f10 R .ret a W := by
  refine bodyPost_ret ?_ hd hR
  subst hv
  have hp' : a.tmps[4]?.getD undef = .pointer (some ⟨r, 0, none⟩) := by simpa using hp
  simp [results, Tryz.results10, hp', go_sem, h0, h1, h2, h3]
abbrev userZ : List Value := [.string ⟨#[]⟩, .string ⟨#[]⟩, .string ⟨#[]⟩, .slice none 0 0]
/-- the boxes of Whose: the state's, the answer's, the session's -/
structure WX (w W : World) (sd : StateD) (g1 : Nat) (s : Sess) (a1 : Option Addr) (c1 : Nat) (a2 : Option Addr) (c2 : Nat) (a3 : Option Addr) (c3 : Nat) (a4 : Option Addr) (c4 : Nat) (a5 : Option Addr) (c5 : Nat) (a6 : Option Addr) (c6 : Nat) (a7 : Option Addr) (c7 : Nat) (a8 : Option Addr) (c8 : Nat) : Prop where
  sr : SR 25 4 (w.heap.size + 1) w W (stateC sd (.slice a1 sd.users.length c1) (.slice a2 sd.roles.length c2) (.slice a3 sd.models.length c3) (.slice a4 sd.cases.length c4) (.slice a5 sd.timers.length c5) (.slice a6 sd.works.length c6) (.slice a7 sd.audit.length c7) (.slice a8 sd.sess.length c8)) userZ
  x0 : W.cell? ⟨g1, 0, none⟩ = some (.int .i64 s.id)
  x1 : W.cell? ⟨g1, 1, none⟩ = some (.string ⟨s.user.toArray⟩)
  x2 : W.cell? ⟨g1, 2, none⟩ = some (.int .i64 s.untl)
section
variable {w W W' : World} {sd : StateD} {g1 : Nat} {s : Sess} {a1 : Option Addr} {c1 : Nat} {a2 : Option Addr} {c2 : Nat} {a3 : Option Addr} {c3 : Nat} {a4 : Option Addr} {c4 : Nat} {a5 : Option Addr} {c5 : Nat} {a6 : Option Addr} {c6 : Nat} {a7 : Option Addr} {c7 : Nat} {a8 : Option Addr} {c8 : Nat}
theorem WX.call (h : WX w W sd g1 s a1 c1 a2 c2 a3 c3 a4 c4 a5 c5 a6 c6 a7 c7 a8 c8) (hb : Below W.heap.size W W') : WX w W' sd g1 s a1 c1 a2 c2 a3 c3 a4 c4 a5 c5 a6 c6 a7 c7 a8 c8 := ⟨h.sr.call hb, cellBelow2 hb h.x0, cellBelow2 hb h.x1, cellBelow2 hb h.x2⟩
theorem WX.drew (h : WX w W sd g1 s a1 c1 a2 c2 a3 c3 a4 c4 a5 c5 a6 c6 a7 c7 a8 c8) : WX w W.drew sd g1 s a1 c1 a2 c2 a3 c3 a4 c4 a5 c5 a6 c6 a7 c7 a8 c8 := h.call (Below.refl _ _).drew
end
set_option maxHeartbeats 8000000 in
set_option maxRecDepth 100000 in
theorem stWhose (sd : StateD) (hok : sd.Ok) (hsec : sd.secret.size ≤ maxLen) (us : List Value) (token : ByteArray) (w : World) (hm : MemL false (From 0) w sd.ds us) (htk : TokW w) (s : Sess) (x : Int) (hr : ReadIs sd.secret.data.toList token.data.toList sd.clock s x) :
    Calls Tryz.prog 10 #[.agg us.toArray, .string token] w (AnsEnd true (From w.heap.size) (whoseOut sd s x).ds (whoseCode sd s x) w) := by
  obtain ⟨a1, c1, a2, c2, a3, c3, a4, c4, a5, c5, a6, c6, a7, c7, a8, c8, rfl, hM⟩ := StateD.cells hm
  obtain ⟨_, _, b, off, hv, -, hC⟩ := rec_open hM.u
  injection hv with e1 e2 e3
  subst e1 e3
  have HB0 := Lib.hid (SR.start1 w 25 4 #[.int .i64 sd.clock, .string sd.secret, .slice a1 sd.users.length c1, .slice a2 sd.roles.length c2, .slice a3 sd.models.length c3, .slice a4 sd.cases.length c4, .slice a5 sd.timers.length c5, .slice a6 sd.works.length c6, .slice a7 sd.audit.length c7, .slice a8 sd.sess.length c8, .int .i64 sd.nc, .int .i64 sd.nw, .int .i64 sd.np, .int .i64 sd.nt] #[.string ⟨#[]⟩, .string ⟨#[]⟩, .string ⟨#[]⟩, .slice none 0 0] rfl rfl)
  have HC := Lib.hid hC
  have HUO := Lib.hid hok.uo
  have HRD := Lib.hid (fun W (hb : Below w.heap.size w W) => Read_walk sd.secret token sd.clock W (htk.below hb) hsec)
  have HIX := Lib.hid (fun W (hb : Below w.heap.size w W) (name : ByteArray) (B : Nat) => ixUserM sd.users name B a1 c1 W hok.ul (hM.u.grow hb))
  have HCN := Lib.hid (fun W (hb : Below w.heap.size w W) => containsSess sd.sess (sessOf s) a8 c8 W hok.sl (hM.e.grow hb))
  generalize hQ : AnsEnd true (From w.heap.size) (whoseOut sd s x).ds (whoseCode sd s x) w = Q
  have HQ := Lib.hid hQ
  have HR := Lib.hid hr
  have hul := hok.ul
  clear hm hM hC e2 hQ hok htk hr hsec
  go_enter Tryz.func10, Tryz.ntmps10
  go_upto_region 1 with fail
  revert HB0
  generalize ((w.alloc (.cells #[.int .i64 sd.clock, .string sd.secret, .slice a1 sd.users.length c1, .slice a2 sd.roles.length c2, .slice a3 sd.models.length c3, .slice a4 sd.cases.length c4, .slice a5 sd.timers.length c5, .slice a6 sd.works.length c6, .slice a7 sd.audit.length c7, .slice a8 sd.sess.length c8, .int .i64 sd.nc, .int .i64 sd.nw, .int .i64 sd.np, .int .i64 sd.nt] 35)).alloc (.cells #[.string ⟨#[]⟩, .string ⟨#[]⟩, .string ⟨#[]⟩, .slice none 0 0] 25)) = W0
  intro HB0
  have k0 := HB0.out.cp 0 _ rfl
  have k1 := HB0.out.cp 1 _ rfl
  go_wp2_with fail
  refine (HRD.out _ HB0.out.below).mono ?_
  rintro e W1 ⟨⟨s', x', hr', rfl⟩, hb1⟩
  obtain ⟨rfl, rfl⟩ := ReadIs.unique hr' HR.out
  have HB1 := Lib.hid (HB0.out.call hb1)
  have HW : Hid (WX w (W1.alloc (.cells #[.int .i64 s'.id, .string ⟨s'.user.toArray⟩, .int .i64 s'.untl] 90)) sd W1.heap.size s' a1 c1 a2 c2 a3 c3 a4 c4 a5 c5 a6 c6 a7 c7 a8 c8) := by
    have ho := ownBox W1 #[.int .i64 s'.id, .string ⟨s'.user.toArray⟩, .int .i64 s'.untl] 90 3 W1.heap.size (Nat.le_refl _) rfl
    exact ⟨HB1.out.call ((Below.refl _ _).alloc (Nat.le_refl _) _), ho.cellAt 0 rfl, ho.cellAt 1 rfl, ho.cellAt 2 rfl⟩
  clear k0 k1 hr' hb1 HB0 HB1 HRD HR
  go_upto_region 2 with fail
  revert HW
  generalize W1.alloc (.cells #[.int .i64 s'.id, .string ⟨s'.user.toArray⟩, .int .i64 s'.untl] 90) = W2
  generalize W1.heap.size = g1
  intro HW
  by_cases hx : x' = 0
  rotate_left
  · obtain ⟨ho1, ho2⟩ := whose_err (sd := sd) (s := s') hx
    rw [ho1, ho2] at HQ
    have hxb : (x' != 0) = true := by rw [bne, beq_eq_false_iff_ne.2 hx]; rfl
    clear ho1 ho2 hx
    have q0 := HW.out.sr.cq 0 _ rfl
    have q1 := HW.out.sr.cq 1 _ rfl
    have q2 := HW.out.sr.cq 2 _ rfl
    have q3 := HW.out.sr.cq 3 _ rfl
    have hf := HW.out.sr.fq
    go_wp2_with fail
    have h7 := (((HW.out.sr.setQ 0 (.string ⟨#[]⟩)).setQ 1 (.string ⟨#[]⟩)).setQ 2 (.string ⟨#[]⟩)).setQ 3 (.slice none 0 0)
    refine ret_stWhose (r := w.heap.size + 1) rfl rfl rfl (h7.cq 0 _ rfl) (h7.cq 1 _ rfl) (h7.cq 2 _ rfl) (h7.cq 3 _ rfl) ?_
    rw [← HQ.out]
    exact ⟨_, rfl, zeroUser_mem _ _ _, h7.below⟩
  subst hx
  have hxb : ((0 : Int) != 0) = false := rfl
  have HI := Lib.hid (HIX.out W2 HW.out.sr.below ⟨s'.user.toArray⟩ g1 HW.out.x1)
  have k2 := HW.out.sr.cp 2 _ rfl
  go_wp2_with fail
  refine HI.out.mono ?_
  rintro e W3 ⟨rfl, hb3⟩
  have HW3 := Lib.hid (HW.out.call hb3)
  clear HI k2 HW hb3 HIX
  rcases user_cases sd.users ⟨s'.user.toArray⟩ with ⟨m, hmm, hix⟩ | hix
  rotate_left
  · obtain ⟨ho1, ho2⟩ := whose_no (sd := sd) (s := s') (.inl (by rw [hix]; omega))
    rw [ho1, ho2] at HQ
    rw [hix]
    clear ho1 ho2 hix
    have HW4 := HW3
    clear HW3
    have q0 := HW4.out.sr.cq 0 _ rfl
    have q1 := HW4.out.sr.cq 1 _ rfl
    have q2 := HW4.out.sr.cq 2 _ rfl
    have q3 := HW4.out.sr.cq 3 _ rfl
    have hf := HW4.out.sr.fq
    go_wp2_with fail
    have h7 := (((HW4.out.sr.setQ 0 (.string ⟨#[]⟩)).setQ 1 (.string ⟨#[]⟩)).setQ 2 (.string ⟨#[]⟩)).setQ 3 (.slice none 0 0)
    refine ret_stWhose (r := w.heap.size + 1) rfl rfl rfl (h7.cq 0 _ rfl) (h7.cq 1 _ rfl) (h7.cq 2 _ rfl) (h7.cq 3 _ rfl) ?_
    rw [← HQ.out]
    exact ⟨_, rfl, zeroUser_mem _ _ _, h7.below⟩
  rw [hix]
  have HIXM := Lib.hid hix
  have HMM := Lib.hid hmm
  have i1 : (m : Int) < (sd.users.length : Int) := by omega
  have i2 : (0 : Int) ≤ (m : Int) := by omega
  have i3 : ¬ (m : Int) < 0 := by omega
  clear hix
  obtain ⟨bb, hbb⟩ : ∃ bb, sd.sess.any (sEq (sessOf s')) = bb := ⟨_, rfl⟩
  rw [hbb] at HCN
  have HW := HW3
  obtain ⟨s, rfl⟩ : ∃ s, s = s' := ⟨_, rfl⟩
  clear HW3
  have k9 := HW.out.sr.cp 9 _ rfl
  have x0 := HW.out.x0
  have x1 := HW.out.x1
  have x2 := HW.out.x2
  have HN := Lib.hid (HCN.out _ HW.out.sr.below)
  clear HCN
  go_wp2_with fail
  refine HN.out.mono ?_
  rintro e W4 ⟨rfl, hb4⟩
  have HW4 := Lib.hid (HW.out.call hb4)
  clear HW hb4 HN k9 x0 x1 x2
  have HBB := Lib.hid hbb
  cases bb with
  | false =>
    obtain ⟨ho1, ho2⟩ := whose_no (sd := sd) (s := s) (.inr HBB.out)
    rw [ho1, ho2] at HQ
    clear ho1 ho2 hbb
    have q0 := HW4.out.sr.cq 0 _ rfl
    have q1 := HW4.out.sr.cq 1 _ rfl
    have q2 := HW4.out.sr.cq 2 _ rfl
    have q3 := HW4.out.sr.cq 3 _ rfl
    have hf := HW4.out.sr.fq
    go_wp2_with fail
    have h7 := (((HW4.out.sr.setQ 0 (.string ⟨#[]⟩)).setQ 1 (.string ⟨#[]⟩)).setQ 2 (.string ⟨#[]⟩)).setQ 3 (.slice none 0 0)
    refine ret_stWhose (r := w.heap.size + 1) rfl rfl rfl (h7.cq 0 _ rfl) (h7.cq 1 _ rfl) (h7.cq 2 _ rfl) (h7.cq 3 _ rfl) ?_
    rw [← HQ.out]
    exact ⟨_, rfl, zeroUser_mem _ _ _, h7.below⟩
  | true =>
    obtain ⟨ho1, ho2⟩ := whose_yes (sd := sd) (s := s) hmm HIXM.out HBB.out
    rw [ho1, ho2] at HQ
    obtain ⟨rfl, -, -⟩ := HC.out.at0 (by omega)
    obtain ⟨us, hus, hcell⟩ := HC.out.row m hmm
    obtain ⟨xa, xc, hu, hst⟩ := UserD.cells hus
    subst hu
    have r0 : W4.cell? ⟨b, off + m * 4, none⟩ = some (.string sd.users[m].n) := cellBelow2 HW4.out.sr.below (hcell 0 _ rfl)
    have r1 : W4.cell? ⟨b, off + m * 4 + 1, none⟩ = some (.string sd.users[m].s) := cellBelow2 HW4.out.sr.below (hcell 1 _ rfl)
    have r2 : W4.cell? ⟨b, off + m * 4 + 2, none⟩ = some (.string sd.users[m].p) := cellBelow2 HW4.out.sr.below (hcell 2 _ rfl)
    have r3 : W4.cell? ⟨b, off + m * 4 + 3, none⟩ = some (.slice xa sd.users[m].rs.length xc) := cellBelow2 HW4.out.sr.below (hcell 3 _ rfl)
    have k2 := HW4.out.sr.cp 2 _ rfl
    have HST := Lib.hid hst
    have HRL := Lib.hid (HUO.out _ (List.getElem_mem hmm))
    have HBX := Lib.hid (ownBox W4 #[.string sd.users[m].n, .string sd.users[m].s, .string sd.users[m].p, .slice xa sd.users[m].rs.length xc] 25 4 W4.heap.size (Nat.le_refl _) rfl)
    have HY := Lib.hid (HW4.out.sr.call ((Below.refl _ _).alloc (Nat.le_refl _) (.cells #[.string sd.users[m].n, .string sd.users[m].s, .string sd.users[m].p, .slice xa sd.users[m].rs.length xc] 25)))
    have HGL := Lib.hid HW4.out.sr.lt
    have HW1' : Hid ((W4.alloc (.cells #[.string sd.users[m].n, .string sd.users[m].s, .string sd.users[m].p, .slice xa sd.users[m].rs.length xc] 25)).heap.size = W4.heap.size + 1) := by show _ = _; simp
    clear hus hcell ho1 ho2 hbb hst
    go_upto_region 8 with fail
    clear k2 r0 r1 r2 r3
    revert HBX HY HGL HW1'
    generalize W4.alloc (.cells #[.string sd.users[m].n, .string sd.users[m].s, .string sd.users[m].p, .slice xa sd.users[m].rs.length xc] 25) = W5
    generalize W4.heap.size = g
    intro HBX HY HGL HW1'
    have HCL := Lib.hid (cloneTexts xa xc sd.users[m].rs W5 HRL.out (HST.out.grow HY.out.below))
    have v3 := HBX.out.cellAt 3 rfl
    clear HW4
    go_wp2_with fail
    refine HCL.out.mono ?_
    rintro e W6 ⟨va, vc, rfl, hm6, hb6⟩
    have hBX2 := HBX.out.below hb6 (by rw [HW1'.out]; omega)
    have hgl : g < W5.heap.size := by rw [HW1'.out]; omega
    have hrl : w.heap.size + 1 < W5.heap.size := by have := HGL.out; omega
    have HX7 := Lib.hid (hBX2.set (j := 3) (.slice va sd.users[m].rs.length vc))
    have HB7 := Lib.hid ((HY.out.call hb6).far HGL.out 3 (.slice va sd.users[m].rs.length vc))
    have hD : MemL true (From W5.heap.size) W6 sd.users[m].ds [.string sd.users[m].n, .string sd.users[m].s, .string sd.users[m].p, .slice va sd.users[m].rs.length vc] := .cons (.atom _) (.cons (.atom _) (.cons (.atom _) (.cons hm6 (MemL.nil _ _ _))))
    have hD2 := hD.far hgl 3 (.slice va sd.users[m].rs.length vc)
    have HD := Lib.hid ((((hD2.far hrl 0 (.string sd.users[m].n)).far hrl 1 (.string sd.users[m].s)).far hrl 2 (.string sd.users[m].p)).far hrl 3 (.slice va sd.users[m].rs.length vc))
    have HG := Lib.hid hrl
    have c3 := hBX2.cellAt 3 rfl
    have hfg := hBX2.frozenAt 3
    clear hD hD2 hm6 hb6 HCL hgl hrl hBX2 v3
    go_upto_region 9 with fail
    clear c3 hfg
    revert HX7 HB7 HD
    generalize W6.setCell ⟨g, 3, none⟩ (.slice va sd.users[m].rs.length vc) = W7
    intro HX7 HB7 HD
    have s0 := HX7.out.cellAt 0 rfl
    have s1 := HX7.out.cellAt 1 rfl
    have s2 := HX7.out.cellAt 2 rfl
    have s3 := HX7.out.cellAt 3 rfl
    have q0 := HB7.out.cq 0 _ rfl
    have q1 := HB7.out.cq 1 _ rfl
    have q2 := HB7.out.cq 2 _ rfl
    have q3 := HB7.out.cq 3 _ rfl
    have hf := HB7.out.fq
    go_wp2_with fail
    have h7 := (((HB7.out.setQ 0 (.string sd.users[m].n)).setQ 1 (.string sd.users[m].s)).setQ 2 (.string sd.users[m].p)).setQ 3 (.slice va sd.users[m].rs.length vc)
    refine ret_stWhose (r := w.heap.size + 1) rfl rfl rfl (h7.cq 0 _ rfl) (h7.cq 1 _ rfl) (h7.cq 2 _ rfl) (h7.cq 3 _ rfl) ?_
    rw [← HQ.out]
    exact ⟨_, rfl, HD.out.weak fun b hb _ => by have : W5.heap.size ≤ b := hb; have := HG.out; show w.heap.size ≤ b; omega, h7.below⟩
end Go.Proofs.YtinijohmdljieaaGreatDoor
