/- docketlaw24.StateAsks: the walk. -/
import Derived.Test.YtinijohmdljieaaGreatDoorAskI
import Derived.Test.YtinijohmdljieaaGreatDoorAskF
import Derived.Test.YtinijohmdljieaaGreatDoorSpoil
namespace Go.Proofs.YtinijohmdljieaaGreatDoor
open Go.RowKit

/-- a box and its data -/
structure IT (o : Bool) (P : Nat → Prop) (E : TypeId) (k r lo : Nat) (W : World) (ds : List D) (us : List Value) : Prop where
  bx : Own W lo E k (some ⟨r, 0, none⟩) 1 1 us
  mm : MemL o P W ds us
section
variable {o : Bool} {P : Nat → Prop} {E : TypeId} {k r lo : Nat} {W W' : World} {ds : List D} {us : List Value}
theorem IT.call (h : IT o P E k r lo W ds us) (hb : Below W.heap.size W W') : IT o P E k r lo W' ds us := ⟨h.bx.below hb (Nat.le_refl _), h.mm.grow hb⟩
theorem IT.start (W : World) (E : TypeId) (k lo : Nat) (hlo : lo ≤ W.heap.size) (hk : us.length = k) (hm : MemL o P W ds us) : IT o P E k W.heap.size lo (W.alloc (.cells us.toArray E)) ds us :=
  ⟨ownBox W us.toArray E k lo hlo (by simpa using hk), hm.grow ((Below.refl _ _).alloc (Nat.le_refl _) _)⟩
end
/-- the state's box and the copy's -/
structure LP (w L : World) (sd : StateD) (us os : List Value) (b1 : Nat) : Prop where
  below : Below w.heap.size w L
  s : Own L w.heap.size 35 14 (some ⟨w.heap.size, 0, none⟩) 1 1 us
  o : Own L w.heap.size 35 14 (some ⟨b1, 0, none⟩) 1 1 os
  ms : MemL false (From 0) L sd.ds us
  mo : MemL false (From 0) L sd.ds os
theorem LP.call {w L W : World} {sd : StateD} {us os : List Value} {b1 : Nat} (h : LP w L sd us os b1) (hb : Below L.heap.size L W) : LP w W sd us os b1 :=
  ⟨h.below.trans (hb.mono h.below.size), h.s.below hb (Nat.le_refl _), h.o.below hb (Nat.le_refl _), h.ms.grow hb, h.mo.grow hb⟩
set_option maxHeartbeats 16000000 in
set_option maxRecDepth 100000 in
theorem law_walk (sd : StateD) (hok : sd.Ok) (us : List Value) (token name : ByteArray) (ver id : Int) (w : World) (hm : MemL false (From 0) w sd.ds us) (ud : UserD) (vd : VerD) (cd : CaseD) (wc vc cc : Int) (hud : ud.rs.length ≤ 1048576) (hvd : vd.m.Ok) (hcd : cd.Ok)
    (HU1 : ∀ W os, Below w.heap.size w W → MemL false (From 0) W sd.ds os → Calls Tryz.prog 10 #[.agg os.toArray, .string token] W (AnsEnd true (From W.heap.size) ud.ds wc W))
    (HU2 : token.size ≤ 3000 → ∀ W os, Below w.heap.size w W → MemL false (From 0) W sd.ds os → Calls Tryz.prog 11 #[.agg os.toArray, .string token] W (AnsEnd false (From 0) ud.ds wc W))
    (HM1 : ∀ W os, MemL false (From 0) W sd.ds os → Calls Tryz.prog 12 #[.agg os.toArray, .string name, .int .i64 ver] W (AnsEnd true (From W.heap.size) vd.ds vc W))
    (HM2 : ∀ W os, MemL false (From 0) W sd.ds os → Calls Tryz.prog 13 #[.agg os.toArray, .string name, .int .i64 ver] W (AnsEnd false (From 0) vd.ds vc W))
    (HC1 : ∀ W os, MemL false (From 0) W sd.ds os → Calls Tryz.prog 14 #[.agg os.toArray, .int .i64 id] W (AnsEnd true (From W.heap.size) cd.ds cc W))
    (HC2 : ∀ W os, MemL false (From 0) W sd.ds os → Calls Tryz.prog 15 #[.agg os.toArray, .int .i64 id] W (AnsEnd false (From 0) cd.ds cc W)) :
    Calls Tryz.prog 4 #[.agg us.toArray, .string token, .string name, .int .i64 ver, .int .i64 id] w fun e w' => e = .returned (.bool true) ∧ Below w.heap.size w w' := by
  obtain ⟨a1, c1, a2, c2, a3, c3, a4, c4, a5, c5, a6, c6, a7, c7, a8, c8, rfl, -⟩ := StateD.cells hm
  have HOK := Lib.hid hok
  have HUD := Lib.hid hud
  have HVD := Lib.hid hvd
  have HCD := Lib.hid hcd
  have HM := Lib.hid hm
  have Hu1 := Lib.hid HU1
  have Hu2 := Lib.hid HU2
  have Hm1 := Lib.hid HM1
  have Hm2 := Lib.hid HM2
  have Hc1 := Lib.hid HC1
  have Hc2 := Lib.hid HC2
  have HB0 := Lib.hid (B1.start w 35 14 #[.int .i64 sd.clock, .string sd.secret, .slice a1 sd.users.length c1, .slice a2 sd.roles.length c2, .slice a3 sd.models.length c3, .slice a4 sd.cases.length c4, .slice a5 sd.timers.length c5, .slice a6 sd.works.length c6, .slice a7 sd.audit.length c7, .slice a8 sd.sess.length c8, .int .i64 sd.nc, .int .i64 sd.nw, .int .i64 sd.np, .int .i64 sd.nt] rfl)
  clear hm hok hud hvd hcd HU1 HU2 HM1 HM2 HC1 HC2
  go_enter Tryz.func4, Tryz.ntmps4
  go_upto_region 1 with fail
  revert HB0
  generalize w.alloc (.cells #[.int .i64 sd.clock, .string sd.secret, .slice a1 sd.users.length c1, .slice a2 sd.roles.length c2, .slice a3 sd.models.length c3, .slice a4 sd.cases.length c4, .slice a5 sd.timers.length c5, .slice a6 sd.works.length c6, .slice a7 sd.audit.length c7, .slice a8 sd.sess.length c8, .int .i64 sd.nc, .int .i64 sd.nw, .int .i64 sd.np, .int .i64 sd.nt] 35) = W0
  intro HB0
  have k0 := HB0.out.p.cellAt 0 rfl
  have k1 := HB0.out.p.cellAt 1 rfl
  have k2 := HB0.out.p.cellAt 2 rfl
  have k3 := HB0.out.p.cellAt 3 rfl
  have k4 := HB0.out.p.cellAt 4 rfl
  have k5 := HB0.out.p.cellAt 5 rfl
  have k6 := HB0.out.p.cellAt 6 rfl
  have k7 := HB0.out.p.cellAt 7 rfl
  have k8 := HB0.out.p.cellAt 8 rfl
  have k9 := HB0.out.p.cellAt 9 rfl
  have k10 := HB0.out.p.cellAt 10 rfl
  have k11 := HB0.out.p.cellAt 11 rfl
  have k12 := HB0.out.p.cellAt 12 rfl
  have k13 := HB0.out.p.cellAt 13 rfl
  have HG : Hid (Calls Tryz.prog 5 #[.agg #[.int .i64 sd.clock, .string sd.secret, .slice a1 sd.users.length c1, .slice a2 sd.roles.length c2, .slice a3 sd.models.length c3, .slice a4 sd.cases.length c4, .slice a5 sd.timers.length c5, .slice a6 sd.works.length c6, .slice a7 sd.audit.length c7, .slice a8 sd.sess.length c8, .int .i64 sd.nc, .int .i64 sd.nw, .int .i64 sd.np, .int .i64 sd.nt]] W0 (BoolEnd W0)) := greatM sd HOK.out _ W0 (HM.out.grow HB0.out.below)
  go_wp2_with fail
  refine HG.out.mono ?_
  rintro e W1 ⟨g, rfl, hb1⟩
  have HB1 := Lib.hid (HB0.out.call hb1)
  clear k0 k1 k2 k3 k4 k5 k6 k7 k8 k9 k10 k11 k12 k13
  clear HG hb1 HB0
  cases g with
  | true =>
    go_wp2_with fail
    go_ret
    exact ⟨rfl, HB1.out.below⟩
  | false =>
    by_cases htl : 3000 < token.size
    · have d1 : decide (3000 < (token.size : Int)) = true := decide_eq_true (by omega)
      clear htl
      go_wp2_with fail
      go_ret
      exact ⟨rfl, HB1.out.below⟩
    have d1 : decide (3000 < (token.size : Int)) = false := decide_eq_false (by omega)
    have HTL : Hid (token.size ≤ 3000) := by show _ ≤ _; omega
    clear htl
    have k0 := HB1.out.p.cellAt 0 rfl
    have k1 := HB1.out.p.cellAt 1 rfl
    have k2 := HB1.out.p.cellAt 2 rfl
    have k3 := HB1.out.p.cellAt 3 rfl
    have k4 := HB1.out.p.cellAt 4 rfl
    have k5 := HB1.out.p.cellAt 5 rfl
    have k6 := HB1.out.p.cellAt 6 rfl
    have k7 := HB1.out.p.cellAt 7 rfl
    have k8 := HB1.out.p.cellAt 8 rfl
    have k9 := HB1.out.p.cellAt 9 rfl
    have k10 := HB1.out.p.cellAt 10 rfl
    have k11 := HB1.out.p.cellAt 11 rfl
    have k12 := HB1.out.p.cellAt 12 rfl
    have k13 := HB1.out.p.cellAt 13 rfl
    have HT : Hid (Calls Tryz.prog 9 #[.agg #[.int .i64 sd.clock, .string sd.secret, .slice a1 sd.users.length c1, .slice a2 sd.roles.length c2, .slice a3 sd.models.length c3, .slice a4 sd.cases.length c4, .slice a5 sd.timers.length c5, .slice a6 sd.works.length c6, .slice a7 sd.audit.length c7, .slice a8 sd.sess.length c8, .int .i64 sd.nc, .int .i64 sd.nw, .int .i64 sd.np, .int .i64 sd.nt]] W1 (SEnd sd W1)) := stateTwin sd HOK.out _ W1 (HM.out.grow HB1.out.below)
    go_wp2_with fail
    refine HT.out.mono ?_
    rintro e W2 ⟨os, rfl, hmo, hb2⟩
    obtain ⟨d1z, f1, d2, f2, d3, f3, d4, f4, d5, f5, d6, f6, d7, f7, d8, f8, hos, -⟩ := StateD.cells hmo
    
    subst hos
    have HP : Hid (LP w (W2.alloc (.cells #[.int .i64 sd.clock, .string sd.secret, .slice d1z sd.users.length f1, .slice d2 sd.roles.length f2, .slice d3 sd.models.length f3, .slice d4 sd.cases.length f4, .slice d5 sd.timers.length f5, .slice d6 sd.works.length f6, .slice d7 sd.audit.length f7, .slice d8 sd.sess.length f8, .int .i64 sd.nc, .int .i64 sd.nw, .int .i64 sd.np, .int .i64 sd.nt] 35)) sd (stateC sd (.slice a1 sd.users.length c1) (.slice a2 sd.roles.length c2) (.slice a3 sd.models.length c3) (.slice a4 sd.cases.length c4) (.slice a5 sd.timers.length c5) (.slice a6 sd.works.length c6) (.slice a7 sd.audit.length c7) (.slice a8 sd.sess.length c8)) (stateC sd (.slice d1z sd.users.length f1) (.slice d2 sd.roles.length f2) (.slice d3 sd.models.length f3) (.slice d4 sd.cases.length f4) (.slice d5 sd.timers.length f5) (.slice d6 sd.works.length f6) (.slice d7 sd.audit.length f7) (.slice d8 sd.sess.length f8)) W2.heap.size) := by
      have hB2 := HB1.out.call hb2
      have hal : Below W2.heap.size W2 (W2.alloc (.cells #[.int .i64 sd.clock, .string sd.secret, .slice d1z sd.users.length f1, .slice d2 sd.roles.length f2, .slice d3 sd.models.length f3, .slice d4 sd.cases.length f4, .slice d5 sd.timers.length f5, .slice d6 sd.works.length f6, .slice d7 sd.audit.length f7, .slice d8 sd.sess.length f8, .int .i64 sd.nc, .int .i64 sd.nw, .int .i64 sd.np, .int .i64 sd.nt] 35)) := (Below.refl _ _).alloc (Nat.le_refl _) _
      exact ⟨(hB2.call hal).below, (hB2.call hal).p, ownBox W2 #[.int .i64 sd.clock, .string sd.secret, .slice d1z sd.users.length f1, .slice d2 sd.roles.length f2, .slice d3 sd.models.length f3, .slice d4 sd.cases.length f4, .slice d5 sd.timers.length f5, .slice d6 sd.works.length f6, .slice d7 sd.audit.length f7, .slice d8 sd.sess.length f8, .int .i64 sd.nc, .int .i64 sd.nw, .int .i64 sd.np, .int .i64 sd.nt] 35 14 w.heap.size hB2.below.size rfl, HM.out.grow (hB2.call hal).below, (hmo.read).grow hal⟩
    clear k0 k1 k2 k3 k4 k5 k6 k7 k8 k9 k10 k11 k12 k13
    clear HT hmo hb2 HB1 d1
    go_upto_region 4 with fail
    revert HP
    generalize W2.alloc (.cells #[.int .i64 sd.clock, .string sd.secret, .slice d1z sd.users.length f1, .slice d2 sd.roles.length f2, .slice d3 sd.models.length f3, .slice d4 sd.cases.length f4, .slice d5 sd.timers.length f5, .slice d6 sd.works.length f6, .slice d7 sd.audit.length f7, .slice d8 sd.sess.length f8, .int .i64 sd.nc, .int .i64 sd.nw, .int .i64 sd.np, .int .i64 sd.nt] 35) = L
    generalize W2.heap.size = b1
    intro HP
    have HLB : Hid (Below L.heap.size L L) := Below.refl _ _
    have HQ := Lib.hid (HP.out.call HLB.out)
    have k0 := HQ.out.o.cellAt 0 rfl
    have k1 := HQ.out.o.cellAt 1 rfl
    have k2 := HQ.out.o.cellAt 2 rfl
    have k3 := HQ.out.o.cellAt 3 rfl
    have k4 := HQ.out.o.cellAt 4 rfl
    have k5 := HQ.out.o.cellAt 5 rfl
    have k6 := HQ.out.o.cellAt 6 rfl
    have k7 := HQ.out.o.cellAt 7 rfl
    have k8 := HQ.out.o.cellAt 8 rfl
    have k9 := HQ.out.o.cellAt 9 rfl
    have k10 := HQ.out.o.cellAt 10 rfl
    have k11 := HQ.out.o.cellAt 11 rfl
    have k12 := HQ.out.o.cellAt 12 rfl
    have k13 := HQ.out.o.cellAt 13 rfl
    have HK : Hid (Calls Tryz.prog 10 #[.agg #[.int .i64 sd.clock, .string sd.secret, .slice d1z sd.users.length f1, .slice d2 sd.roles.length f2, .slice d3 sd.models.length f3, .slice d4 sd.cases.length f4, .slice d5 sd.timers.length f5, .slice d6 sd.works.length f6, .slice d7 sd.audit.length f7, .slice d8 sd.sess.length f8, .int .i64 sd.nc, .int .i64 sd.nw, .int .i64 sd.np, .int .i64 sd.nt], .string token] L (AnsEnd true (From L.heap.size) ud.ds wc L)) := Hu1.out L _ HQ.out.below HQ.out.mo
    go_wp2_with fail
    refine HK.out.mono ?_
    rintro e Y0 ⟨usu, rfl, hmu, hbu⟩
    obtain ⟨ua1, uc1, hu, -⟩ := UserD.cells hmu
    subst hu
    have hal : Below Y0.heap.size Y0 (Y0.alloc (.cells #[.string ud.n, .string ud.s, .string ud.p, .slice ua1 ud.rs.length uc1] 25)) := (Below.refl _ _).alloc (Nat.le_refl _) _
    have hgo : Below L.heap.size L (Y0.alloc (.cells #[.string ud.n, .string ud.s, .string ud.p, .slice ua1 ud.rs.length uc1] 25)) := hbu.trans (hal.mono hbu.size)
    have hLY : L.heap.size ≤ Y0.heap.size := Nat.le_trans HLB.out.size hbu.size
    have HIu : Hid (IT true (From L.heap.size) 25 4 Y0.heap.size L.heap.size (Y0.alloc (.cells #[.string ud.n, .string ud.s, .string ud.p, .slice ua1 ud.rs.length uc1] 25)) ud.ds [.string ud.n, .string ud.s, .string ud.p, .slice ua1 ud.rs.length uc1]) := IT.start Y0 25 4 L.heap.size hLY rfl (hmu.weak fun b hb _ => (by have : L.heap.size ≤ b := hb; exact Nat.le_trans HLB.out.size this : From L.heap.size b))
    have HLB2 := Lib.hid (HLB.out.trans (hgo.mono HLB.out.size))
    clear k0 k1 k2 k3 k4 k5 k6 k7 k8 k9 k10 k11 k12 k13
    clear HK HQ HLB hmu hbu hal hgo hLY Hu1
    go_upto_region 5 with fail
    revert HIu HLB2
    generalize Y0.alloc (.cells #[.string ud.n, .string ud.s, .string ud.p, .slice ua1 ud.rs.length uc1] 25) = X1
    generalize Y0.heap.size = ru
    intro HIu  HLB
    have HQ := Lib.hid (HP.out.call HLB.out)
    have k0 := HQ.out.s.cellAt 0 rfl
    have k1 := HQ.out.s.cellAt 1 rfl
    have k2 := HQ.out.s.cellAt 2 rfl
    have k3 := HQ.out.s.cellAt 3 rfl
    have k4 := HQ.out.s.cellAt 4 rfl
    have k5 := HQ.out.s.cellAt 5 rfl
    have k6 := HQ.out.s.cellAt 6 rfl
    have k7 := HQ.out.s.cellAt 7 rfl
    have k8 := HQ.out.s.cellAt 8 rfl
    have k9 := HQ.out.s.cellAt 9 rfl
    have k10 := HQ.out.s.cellAt 10 rfl
    have k11 := HQ.out.s.cellAt 11 rfl
    have k12 := HQ.out.s.cellAt 12 rfl
    have k13 := HQ.out.s.cellAt 13 rfl
    have HK : Hid (Calls Tryz.prog 11 #[.agg #[.int .i64 sd.clock, .string sd.secret, .slice a1 sd.users.length c1, .slice a2 sd.roles.length c2, .slice a3 sd.models.length c3, .slice a4 sd.cases.length c4, .slice a5 sd.timers.length c5, .slice a6 sd.works.length c6, .slice a7 sd.audit.length c7, .slice a8 sd.sess.length c8, .int .i64 sd.nc, .int .i64 sd.nw, .int .i64 sd.np, .int .i64 sd.nt], .string token] X1 (AnsEnd false (From 0) ud.ds wc X1)) := Hu2.out HTL.out X1 _ HQ.out.below HQ.out.ms
    go_wp2_with fail
    refine HK.out.mono ?_
    rintro e Y1 ⟨usv, rfl, hmv, hbv⟩
    obtain ⟨va1, vc1, hv, -⟩ := UserD.cells hmv
    subst hv
    have hal : Below Y1.heap.size Y1 (Y1.alloc (.cells #[.string ud.n, .string ud.s, .string ud.p, .slice va1 ud.rs.length vc1] 25)) := (Below.refl _ _).alloc (Nat.le_refl _) _
    have hgo : Below X1.heap.size X1 (Y1.alloc (.cells #[.string ud.n, .string ud.s, .string ud.p, .slice va1 ud.rs.length vc1] 25)) := hbv.trans (hal.mono hbv.size)
    have hLY : L.heap.size ≤ Y1.heap.size := Nat.le_trans HLB.out.size hbv.size
    have HIv : Hid (IT false (From 0) 25 4 Y1.heap.size L.heap.size (Y1.alloc (.cells #[.string ud.n, .string ud.s, .string ud.p, .slice va1 ud.rs.length vc1] 25)) ud.ds [.string ud.n, .string ud.s, .string ud.p, .slice va1 ud.rs.length vc1]) := IT.start Y1 25 4 L.heap.size hLY rfl hmv
    have HIu2 := Lib.hid (HIu.out.call hgo)
    clear HIu
    have HLB2 := Lib.hid (HLB.out.trans (hgo.mono HLB.out.size))
    clear k0 k1 k2 k3 k4 k5 k6 k7 k8 k9 k10 k11 k12 k13
    clear HK HQ HLB hmv hbv hal hgo hLY Hu2
    go_upto_region 6 with fail
    revert HIv HIu2 HLB2
    generalize Y1.alloc (.cells #[.string ud.n, .string ud.s, .string ud.p, .slice va1 ud.rs.length vc1] 25) = X2
    generalize Y1.heap.size = rv
    intro HIv HIu HLB
    have HQ := Lib.hid (HP.out.call HLB.out)
    have k0 := HQ.out.o.cellAt 0 rfl
    have k1 := HQ.out.o.cellAt 1 rfl
    have k2 := HQ.out.o.cellAt 2 rfl
    have k3 := HQ.out.o.cellAt 3 rfl
    have k4 := HQ.out.o.cellAt 4 rfl
    have k5 := HQ.out.o.cellAt 5 rfl
    have k6 := HQ.out.o.cellAt 6 rfl
    have k7 := HQ.out.o.cellAt 7 rfl
    have k8 := HQ.out.o.cellAt 8 rfl
    have k9 := HQ.out.o.cellAt 9 rfl
    have k10 := HQ.out.o.cellAt 10 rfl
    have k11 := HQ.out.o.cellAt 11 rfl
    have k12 := HQ.out.o.cellAt 12 rfl
    have k13 := HQ.out.o.cellAt 13 rfl
    have HK : Hid (Calls Tryz.prog 12 #[.agg #[.int .i64 sd.clock, .string sd.secret, .slice d1z sd.users.length f1, .slice d2 sd.roles.length f2, .slice d3 sd.models.length f3, .slice d4 sd.cases.length f4, .slice d5 sd.timers.length f5, .slice d6 sd.works.length f6, .slice d7 sd.audit.length f7, .slice d8 sd.sess.length f8, .int .i64 sd.nc, .int .i64 sd.nw, .int .i64 sd.np, .int .i64 sd.nt], .string name, .int .i64 ver] X2 (AnsEnd true (From X2.heap.size) vd.ds vc X2)) := Hm1.out X2 _ HQ.out.mo
    go_wp2_with fail
    refine HK.out.mono ?_
    rintro e Y2 ⟨usm, rfl, hmm, hbm⟩
    obtain ⟨mv, hm, -⟩ := VerD.cells hmm
    subst hm
    have hal : Below Y2.heap.size Y2 (Y2.alloc (.cells #[.string vd.m.name, .slice mv.a1 vd.m.attrs.length mv.c1, .slice mv.a2 vd.m.events.length mv.c2, .slice mv.a3 vd.m.stages.length mv.c3, .slice mv.a4 vd.m.stones.length mv.c4, .slice mv.a5 vd.m.apart.length mv.c5, .int .i64 vd.v] 55)) := (Below.refl _ _).alloc (Nat.le_refl _) _
    have hgo : Below X2.heap.size X2 (Y2.alloc (.cells #[.string vd.m.name, .slice mv.a1 vd.m.attrs.length mv.c1, .slice mv.a2 vd.m.events.length mv.c2, .slice mv.a3 vd.m.stages.length mv.c3, .slice mv.a4 vd.m.stones.length mv.c4, .slice mv.a5 vd.m.apart.length mv.c5, .int .i64 vd.v] 55)) := hbm.trans (hal.mono hbm.size)
    have hLY : L.heap.size ≤ Y2.heap.size := Nat.le_trans HLB.out.size hbm.size
    have HIm : Hid (IT true (From L.heap.size) 55 7 Y2.heap.size L.heap.size (Y2.alloc (.cells #[.string vd.m.name, .slice mv.a1 vd.m.attrs.length mv.c1, .slice mv.a2 vd.m.events.length mv.c2, .slice mv.a3 vd.m.stages.length mv.c3, .slice mv.a4 vd.m.stones.length mv.c4, .slice mv.a5 vd.m.apart.length mv.c5, .int .i64 vd.v] 55)) vd.ds [.string vd.m.name, .slice mv.a1 vd.m.attrs.length mv.c1, .slice mv.a2 vd.m.events.length mv.c2, .slice mv.a3 vd.m.stages.length mv.c3, .slice mv.a4 vd.m.stones.length mv.c4, .slice mv.a5 vd.m.apart.length mv.c5, .int .i64 vd.v]) := IT.start Y2 55 7 L.heap.size hLY rfl (hmm.weak fun b hb _ => (by have : X2.heap.size ≤ b := hb; exact Nat.le_trans HLB.out.size this : From L.heap.size b))
    have HIu2 := Lib.hid (HIu.out.call hgo)
    clear HIu
    have HIv2 := Lib.hid (HIv.out.call hgo)
    clear HIv
    have HLB2 := Lib.hid (HLB.out.trans (hgo.mono HLB.out.size))
    clear k0 k1 k2 k3 k4 k5 k6 k7 k8 k9 k10 k11 k12 k13
    clear HK HQ HLB hmm hbm hal hgo hLY Hm1
    go_upto_region 7 with fail
    revert HIm HIu2 HIv2 HLB2
    generalize Y2.alloc (.cells #[.string vd.m.name, .slice mv.a1 vd.m.attrs.length mv.c1, .slice mv.a2 vd.m.events.length mv.c2, .slice mv.a3 vd.m.stages.length mv.c3, .slice mv.a4 vd.m.stones.length mv.c4, .slice mv.a5 vd.m.apart.length mv.c5, .int .i64 vd.v] 55) = X3
    generalize Y2.heap.size = rm
    intro HIm HIu HIv HLB
    have HQ := Lib.hid (HP.out.call HLB.out)
    have k0 := HQ.out.s.cellAt 0 rfl
    have k1 := HQ.out.s.cellAt 1 rfl
    have k2 := HQ.out.s.cellAt 2 rfl
    have k3 := HQ.out.s.cellAt 3 rfl
    have k4 := HQ.out.s.cellAt 4 rfl
    have k5 := HQ.out.s.cellAt 5 rfl
    have k6 := HQ.out.s.cellAt 6 rfl
    have k7 := HQ.out.s.cellAt 7 rfl
    have k8 := HQ.out.s.cellAt 8 rfl
    have k9 := HQ.out.s.cellAt 9 rfl
    have k10 := HQ.out.s.cellAt 10 rfl
    have k11 := HQ.out.s.cellAt 11 rfl
    have k12 := HQ.out.s.cellAt 12 rfl
    have k13 := HQ.out.s.cellAt 13 rfl
    have HK : Hid (Calls Tryz.prog 13 #[.agg #[.int .i64 sd.clock, .string sd.secret, .slice a1 sd.users.length c1, .slice a2 sd.roles.length c2, .slice a3 sd.models.length c3, .slice a4 sd.cases.length c4, .slice a5 sd.timers.length c5, .slice a6 sd.works.length c6, .slice a7 sd.audit.length c7, .slice a8 sd.sess.length c8, .int .i64 sd.nc, .int .i64 sd.nw, .int .i64 sd.np, .int .i64 sd.nt], .string name, .int .i64 ver] X3 (AnsEnd false (From 0) vd.ds vc X3)) := Hm2.out X3 _ HQ.out.ms
    go_wp2_with fail
    refine HK.out.mono ?_
    rintro e Y3 ⟨usn, rfl, hmn, hbn⟩
    obtain ⟨nv, hn, -⟩ := VerD.cells hmn
    subst hn
    have hal : Below Y3.heap.size Y3 (Y3.alloc (.cells #[.string vd.m.name, .slice nv.a1 vd.m.attrs.length nv.c1, .slice nv.a2 vd.m.events.length nv.c2, .slice nv.a3 vd.m.stages.length nv.c3, .slice nv.a4 vd.m.stones.length nv.c4, .slice nv.a5 vd.m.apart.length nv.c5, .int .i64 vd.v] 55)) := (Below.refl _ _).alloc (Nat.le_refl _) _
    have hgo : Below X3.heap.size X3 (Y3.alloc (.cells #[.string vd.m.name, .slice nv.a1 vd.m.attrs.length nv.c1, .slice nv.a2 vd.m.events.length nv.c2, .slice nv.a3 vd.m.stages.length nv.c3, .slice nv.a4 vd.m.stones.length nv.c4, .slice nv.a5 vd.m.apart.length nv.c5, .int .i64 vd.v] 55)) := hbn.trans (hal.mono hbn.size)
    have hLY : L.heap.size ≤ Y3.heap.size := Nat.le_trans HLB.out.size hbn.size
    have HIn : Hid (IT false (From 0) 55 7 Y3.heap.size L.heap.size (Y3.alloc (.cells #[.string vd.m.name, .slice nv.a1 vd.m.attrs.length nv.c1, .slice nv.a2 vd.m.events.length nv.c2, .slice nv.a3 vd.m.stages.length nv.c3, .slice nv.a4 vd.m.stones.length nv.c4, .slice nv.a5 vd.m.apart.length nv.c5, .int .i64 vd.v] 55)) vd.ds [.string vd.m.name, .slice nv.a1 vd.m.attrs.length nv.c1, .slice nv.a2 vd.m.events.length nv.c2, .slice nv.a3 vd.m.stages.length nv.c3, .slice nv.a4 vd.m.stones.length nv.c4, .slice nv.a5 vd.m.apart.length nv.c5, .int .i64 vd.v]) := IT.start Y3 55 7 L.heap.size hLY rfl hmn
    have HIu2 := Lib.hid (HIu.out.call hgo)
    clear HIu
    have HIv2 := Lib.hid (HIv.out.call hgo)
    clear HIv
    have HIm2 := Lib.hid (HIm.out.call hgo)
    clear HIm
    have HLB2 := Lib.hid (HLB.out.trans (hgo.mono HLB.out.size))
    clear k0 k1 k2 k3 k4 k5 k6 k7 k8 k9 k10 k11 k12 k13
    clear HK HQ HLB hmn hbn hal hgo hLY Hm2
    go_upto_region 8 with fail
    revert HIn HIu2 HIv2 HIm2 HLB2
    generalize Y3.alloc (.cells #[.string vd.m.name, .slice nv.a1 vd.m.attrs.length nv.c1, .slice nv.a2 vd.m.events.length nv.c2, .slice nv.a3 vd.m.stages.length nv.c3, .slice nv.a4 vd.m.stones.length nv.c4, .slice nv.a5 vd.m.apart.length nv.c5, .int .i64 vd.v] 55) = X4
    generalize Y3.heap.size = rn
    intro HIn HIu HIv HIm HLB
    have HQ := Lib.hid (HP.out.call HLB.out)
    have k0 := HQ.out.o.cellAt 0 rfl
    have k1 := HQ.out.o.cellAt 1 rfl
    have k2 := HQ.out.o.cellAt 2 rfl
    have k3 := HQ.out.o.cellAt 3 rfl
    have k4 := HQ.out.o.cellAt 4 rfl
    have k5 := HQ.out.o.cellAt 5 rfl
    have k6 := HQ.out.o.cellAt 6 rfl
    have k7 := HQ.out.o.cellAt 7 rfl
    have k8 := HQ.out.o.cellAt 8 rfl
    have k9 := HQ.out.o.cellAt 9 rfl
    have k10 := HQ.out.o.cellAt 10 rfl
    have k11 := HQ.out.o.cellAt 11 rfl
    have k12 := HQ.out.o.cellAt 12 rfl
    have k13 := HQ.out.o.cellAt 13 rfl
    have HK : Hid (Calls Tryz.prog 14 #[.agg #[.int .i64 sd.clock, .string sd.secret, .slice d1z sd.users.length f1, .slice d2 sd.roles.length f2, .slice d3 sd.models.length f3, .slice d4 sd.cases.length f4, .slice d5 sd.timers.length f5, .slice d6 sd.works.length f6, .slice d7 sd.audit.length f7, .slice d8 sd.sess.length f8, .int .i64 sd.nc, .int .i64 sd.nw, .int .i64 sd.np, .int .i64 sd.nt], .int .i64 id] X4 (AnsEnd true (From X4.heap.size) cd.ds cc X4)) := Hc1.out X4 _ HQ.out.mo
    go_wp2_with fail
    refine HK.out.mono ?_
    rintro e Y4 ⟨usp, rfl, hmp, hbp⟩
    obtain ⟨pa1, pc1, pa2, pc2, pa3, pc3, pa4, pc4, hp, -⟩ := CaseD.cells hmp
    subst hp
    have hal : Below Y4.heap.size Y4 (Y4.alloc (.cells #[.int .i64 cd.id, .string cd.model, .int .i64 cd.version, .slice pa1 cd.values.length pc1, .slice pa2 cd.opn.length pc2, .slice pa3 cd.done.length pc3, .slice pa4 cd.acted.length pc4] 64)) := (Below.refl _ _).alloc (Nat.le_refl _) _
    have hgo : Below X4.heap.size X4 (Y4.alloc (.cells #[.int .i64 cd.id, .string cd.model, .int .i64 cd.version, .slice pa1 cd.values.length pc1, .slice pa2 cd.opn.length pc2, .slice pa3 cd.done.length pc3, .slice pa4 cd.acted.length pc4] 64)) := hbp.trans (hal.mono hbp.size)
    have hLY : L.heap.size ≤ Y4.heap.size := Nat.le_trans HLB.out.size hbp.size
    have HIp : Hid (IT true (From L.heap.size) 64 7 Y4.heap.size L.heap.size (Y4.alloc (.cells #[.int .i64 cd.id, .string cd.model, .int .i64 cd.version, .slice pa1 cd.values.length pc1, .slice pa2 cd.opn.length pc2, .slice pa3 cd.done.length pc3, .slice pa4 cd.acted.length pc4] 64)) cd.ds [.int .i64 cd.id, .string cd.model, .int .i64 cd.version, .slice pa1 cd.values.length pc1, .slice pa2 cd.opn.length pc2, .slice pa3 cd.done.length pc3, .slice pa4 cd.acted.length pc4]) := IT.start Y4 64 7 L.heap.size hLY rfl (hmp.weak fun b hb _ => (by have : X4.heap.size ≤ b := hb; exact Nat.le_trans HLB.out.size this : From L.heap.size b))
    have HIu2 := Lib.hid (HIu.out.call hgo)
    clear HIu
    have HIv2 := Lib.hid (HIv.out.call hgo)
    clear HIv
    have HIm2 := Lib.hid (HIm.out.call hgo)
    clear HIm
    have HIn2 := Lib.hid (HIn.out.call hgo)
    clear HIn
    have HLB2 := Lib.hid (HLB.out.trans (hgo.mono HLB.out.size))
    clear k0 k1 k2 k3 k4 k5 k6 k7 k8 k9 k10 k11 k12 k13
    clear HK HQ HLB hmp hbp hal hgo hLY Hc1
    go_upto_region 9 with fail
    revert HIp HIu2 HIv2 HIm2 HIn2 HLB2
    generalize Y4.alloc (.cells #[.int .i64 cd.id, .string cd.model, .int .i64 cd.version, .slice pa1 cd.values.length pc1, .slice pa2 cd.opn.length pc2, .slice pa3 cd.done.length pc3, .slice pa4 cd.acted.length pc4] 64) = X5
    generalize Y4.heap.size = rp
    intro HIp HIu HIv HIm HIn HLB
    have HQ := Lib.hid (HP.out.call HLB.out)
    have k0 := HQ.out.s.cellAt 0 rfl
    have k1 := HQ.out.s.cellAt 1 rfl
    have k2 := HQ.out.s.cellAt 2 rfl
    have k3 := HQ.out.s.cellAt 3 rfl
    have k4 := HQ.out.s.cellAt 4 rfl
    have k5 := HQ.out.s.cellAt 5 rfl
    have k6 := HQ.out.s.cellAt 6 rfl
    have k7 := HQ.out.s.cellAt 7 rfl
    have k8 := HQ.out.s.cellAt 8 rfl
    have k9 := HQ.out.s.cellAt 9 rfl
    have k10 := HQ.out.s.cellAt 10 rfl
    have k11 := HQ.out.s.cellAt 11 rfl
    have k12 := HQ.out.s.cellAt 12 rfl
    have k13 := HQ.out.s.cellAt 13 rfl
    have HK : Hid (Calls Tryz.prog 15 #[.agg #[.int .i64 sd.clock, .string sd.secret, .slice a1 sd.users.length c1, .slice a2 sd.roles.length c2, .slice a3 sd.models.length c3, .slice a4 sd.cases.length c4, .slice a5 sd.timers.length c5, .slice a6 sd.works.length c6, .slice a7 sd.audit.length c7, .slice a8 sd.sess.length c8, .int .i64 sd.nc, .int .i64 sd.nw, .int .i64 sd.np, .int .i64 sd.nt], .int .i64 id] X5 (AnsEnd false (From 0) cd.ds cc X5)) := Hc2.out X5 _ HQ.out.ms
    go_wp2_with fail
    refine HK.out.mono ?_
    rintro e Y5 ⟨usq, rfl, hmq, hbq⟩
    obtain ⟨qa1, qc1, qa2, qc2, qa3, qc3, qa4, qc4, hq, -⟩ := CaseD.cells hmq
    subst hq
    have hal : Below Y5.heap.size Y5 (Y5.alloc (.cells #[.int .i64 cd.id, .string cd.model, .int .i64 cd.version, .slice qa1 cd.values.length qc1, .slice qa2 cd.opn.length qc2, .slice qa3 cd.done.length qc3, .slice qa4 cd.acted.length qc4] 64)) := (Below.refl _ _).alloc (Nat.le_refl _) _
    have hgo : Below X5.heap.size X5 (Y5.alloc (.cells #[.int .i64 cd.id, .string cd.model, .int .i64 cd.version, .slice qa1 cd.values.length qc1, .slice qa2 cd.opn.length qc2, .slice qa3 cd.done.length qc3, .slice qa4 cd.acted.length qc4] 64)) := hbq.trans (hal.mono hbq.size)
    have hLY : L.heap.size ≤ Y5.heap.size := Nat.le_trans HLB.out.size hbq.size
    have HIq : Hid (IT false (From 0) 64 7 Y5.heap.size L.heap.size (Y5.alloc (.cells #[.int .i64 cd.id, .string cd.model, .int .i64 cd.version, .slice qa1 cd.values.length qc1, .slice qa2 cd.opn.length qc2, .slice qa3 cd.done.length qc3, .slice qa4 cd.acted.length qc4] 64)) cd.ds [.int .i64 cd.id, .string cd.model, .int .i64 cd.version, .slice qa1 cd.values.length qc1, .slice qa2 cd.opn.length qc2, .slice qa3 cd.done.length qc3, .slice qa4 cd.acted.length qc4]) := IT.start Y5 64 7 L.heap.size hLY rfl hmq
    have HIu2 := Lib.hid (HIu.out.call hgo)
    clear HIu
    have HIv2 := Lib.hid (HIv.out.call hgo)
    clear HIv
    have HIm2 := Lib.hid (HIm.out.call hgo)
    clear HIm
    have HIn2 := Lib.hid (HIn.out.call hgo)
    clear HIn
    have HIp2 := Lib.hid (HIp.out.call hgo)
    clear HIp
    have HLB2 := Lib.hid (HLB.out.trans (hgo.mono HLB.out.size))
    clear k0 k1 k2 k3 k4 k5 k6 k7 k8 k9 k10 k11 k12 k13
    clear HK HQ HLB hmq hbq hal hgo hLY Hc2
    go_upto_region 10 with fail
    revert HIq HIu2 HIv2 HIm2 HIn2 HIp2 HLB2
    generalize Y5.alloc (.cells #[.int .i64 cd.id, .string cd.model, .int .i64 cd.version, .slice qa1 cd.values.length qc1, .slice qa2 cd.opn.length qc2, .slice qa3 cd.done.length qc3, .slice qa4 cd.acted.length qc4] 64) = X6
    generalize Y5.heap.size = rq
    intro HIq HIu HIv HIm HIn HIp HLB
    have u0 := HIu.out.bx.cellAt 0 rfl
    have u1 := HIu.out.bx.cellAt 1 rfl
    have u2 := HIu.out.bx.cellAt 2 rfl
    have u3 := HIu.out.bx.cellAt 3 rfl
    have v0 := HIv.out.bx.cellAt 0 rfl
    have v1 := HIv.out.bx.cellAt 1 rfl
    have v2 := HIv.out.bx.cellAt 2 rfl
    have v3 := HIv.out.bx.cellAt 3 rfl
    have hwc : (wc == wc) = true := by simp
    have hvc : (vc == vc) = true := by simp
    have hcc : (cc == cc) = true := by simp
    have hvv : (vd.v == vd.v) = true := by simp
    have HUS : Hid (Calls Tryz.prog 16 #[.agg #[.string ud.n, .string ud.s, .string ud.p, .slice ua1 ud.rs.length uc1], .agg #[.string ud.n, .string ud.s, .string ud.p, .slice va1 ud.rs.length vc1]] X6 fun e w' => e = .returned (.bool true) ∧ Below X6.heap.size X6 w') := userSame ud ua1 va1 uc1 vc1 X6 HUD.out (HIu.out.mm.read.2 3 _ _ rfl rfl) (HIv.out.mm.read.2 3 _ _ rfl rfl)
    go_wp2_with fail
    refine HUS.out.mono ?_
    rintro e Z1 ⟨rfl, hbz⟩
    clear u0 u1 u2 u3 v0 v1 v2 v3
    have HIu2 := Lib.hid (HIu.out.call hbz)
    clear HIu
    have HIu := HIu2
    clear HIu2
    have HIm2 := Lib.hid (HIm.out.call hbz)
    clear HIm
    have HIm := HIm2
    clear HIm2
    have HIn2 := Lib.hid (HIn.out.call hbz)
    clear HIn
    have HIn := HIn2
    clear HIn2
    have HIp2 := Lib.hid (HIp.out.call hbz)
    clear HIp
    have HIp := HIp2
    clear HIp2
    have HIq2 := Lib.hid (HIq.out.call hbz)
    clear HIq
    have HIq := HIq2
    clear HIq2
    have HLB2 := Lib.hid (HLB.out.trans (hbz.mono HLB.out.size))
    clear HLB hbz HUS HIv
    have m0 := HIm.out.bx.cellAt 0 rfl
    have m1 := HIm.out.bx.cellAt 1 rfl
    have m2 := HIm.out.bx.cellAt 2 rfl
    have m3 := HIm.out.bx.cellAt 3 rfl
    have m4 := HIm.out.bx.cellAt 4 rfl
    have m5 := HIm.out.bx.cellAt 5 rfl
    have m6 := HIm.out.bx.cellAt 6 rfl
    have n0 := HIn.out.bx.cellAt 0 rfl
    have n1 := HIn.out.bx.cellAt 1 rfl
    have n2 := HIn.out.bx.cellAt 2 rfl
    have n3 := HIn.out.bx.cellAt 3 rfl
    have n4 := HIn.out.bx.cellAt 4 rfl
    have n5 := HIn.out.bx.cellAt 5 rfl
    have n6 := HIn.out.bx.cellAt 6 rfl
    have HMS : Hid (Calls Tryz.prog 17 #[.agg #[.string vd.m.name, .slice mv.a1 vd.m.attrs.length mv.c1, .slice mv.a2 vd.m.events.length mv.c2, .slice mv.a3 vd.m.stages.length mv.c3, .slice mv.a4 vd.m.stones.length mv.c4, .slice mv.a5 vd.m.apart.length mv.c5], .agg #[.string vd.m.name, .slice nv.a1 vd.m.attrs.length nv.c1, .slice nv.a2 vd.m.events.length nv.c2, .slice nv.a3 vd.m.stages.length nv.c3, .slice nv.a4 vd.m.stones.length nv.c4, .slice nv.a5 vd.m.apart.length nv.c5]] Z1 fun e w' => e = .returned (.bool true) ∧ Below Z1.heap.size Z1 w') := modelSame vd.m HVD.out mv.a1 mv.c1 mv.a2 mv.c2 mv.a3 mv.c3 mv.a4 mv.c4 mv.a5 mv.c5 nv.a1 nv.c1 nv.a2 nv.c2 nv.a3 nv.c3 nv.a4 nv.c4 nv.a5 nv.c5 Z1 ⟨HIm.out.mm.read.2 1 _ _ rfl rfl, HIm.out.mm.read.2 2 _ _ rfl rfl, HIm.out.mm.read.2 3 _ _ rfl rfl, HIm.out.mm.read.2 4 _ _ rfl rfl, HIm.out.mm.read.2 5 _ _ rfl rfl⟩ ⟨HIn.out.mm.read.2 1 _ _ rfl rfl, HIn.out.mm.read.2 2 _ _ rfl rfl, HIn.out.mm.read.2 3 _ _ rfl rfl, HIn.out.mm.read.2 4 _ _ rfl rfl, HIn.out.mm.read.2 5 _ _ rfl rfl⟩
    go_wp2_with fail
    refine HMS.out.mono ?_
    rintro e Z2 ⟨rfl, hbz⟩
    clear m0 m1 m2 m3 m4 m5 m6 n0 n1 n2 n3 n4 n5 n6
    have HIu2 := Lib.hid (HIu.out.call hbz)
    clear HIu
    have HIu := HIu2
    clear HIu2
    have HIm2 := Lib.hid (HIm.out.call hbz)
    clear HIm
    have HIm := HIm2
    clear HIm2
    have HIp2 := Lib.hid (HIp.out.call hbz)
    clear HIp
    have HIp := HIp2
    clear HIp2
    have HIq2 := Lib.hid (HIq.out.call hbz)
    clear HIq
    have HIq := HIq2
    clear HIq2
    have HLB := Lib.hid (HLB2.out.trans (hbz.mono HLB2.out.size))
    clear HLB2 hbz HMS HIn
    have p0 := HIp.out.bx.cellAt 0 rfl
    have p1 := HIp.out.bx.cellAt 1 rfl
    have p2 := HIp.out.bx.cellAt 2 rfl
    have p3 := HIp.out.bx.cellAt 3 rfl
    have p4 := HIp.out.bx.cellAt 4 rfl
    have p5 := HIp.out.bx.cellAt 5 rfl
    have p6 := HIp.out.bx.cellAt 6 rfl
    have q0 := HIq.out.bx.cellAt 0 rfl
    have q1 := HIq.out.bx.cellAt 1 rfl
    have q2 := HIq.out.bx.cellAt 2 rfl
    have q3 := HIq.out.bx.cellAt 3 rfl
    have q4 := HIq.out.bx.cellAt 4 rfl
    have q5 := HIq.out.bx.cellAt 5 rfl
    have q6 := HIq.out.bx.cellAt 6 rfl
    have HCS : Hid (Calls Tryz.prog 18 #[.agg #[.int .i64 cd.id, .string cd.model, .int .i64 cd.version, .slice pa1 cd.values.length pc1, .slice pa2 cd.opn.length pc2, .slice pa3 cd.done.length pc3, .slice pa4 cd.acted.length pc4], .agg #[.int .i64 cd.id, .string cd.model, .int .i64 cd.version, .slice qa1 cd.values.length qc1, .slice qa2 cd.opn.length qc2, .slice qa3 cd.done.length qc3, .slice qa4 cd.acted.length qc4]] Z2 fun e w' => e = .returned (.bool true) ∧ Below Z2.heap.size Z2 w') := caseSame cd HCD.out _ _ Z2 HIp.out.mm.read HIq.out.mm.read
    go_wp2_with fail
    refine HCS.out.mono ?_
    rintro e Z3 ⟨rfl, hbz⟩
    clear p0 p1 p2 p3 p4 p5 p6 q0 q1 q2 q3 q4 q5 q6
    have HIu2 := Lib.hid (HIu.out.call hbz)
    clear HIu
    have HIu := HIu2
    clear HIu2
    have HIm2 := Lib.hid (HIm.out.call hbz)
    clear HIm
    have HIm := HIm2
    clear HIm2
    have HIp2 := Lib.hid (HIp.out.call hbz)
    clear HIp
    have HIp := HIp2
    clear HIp2
    have HLB2 := Lib.hid (HLB.out.trans (hbz.mono HLB.out.size))
    clear HLB hbz HCS HIq
    have u0 := HIu.out.bx.cellAt 0 rfl
    have u1 := HIu.out.bx.cellAt 1 rfl
    have u2 := HIu.out.bx.cellAt 2 rfl
    have u3 := HIu.out.bx.cellAt 3 rfl
    have e1 : (Z3.alloc (.cells #[.string ud.n, .string ud.s, .string ud.p, .slice ua1 ud.rs.length uc1] 25)).heap.size = Z3.heap.size + 1 := by simp
    have e2 : ((Z3.alloc (.cells #[.string ud.n, .string ud.s, .string ud.p, .slice ua1 ud.rs.length uc1] 25)).alloc (.cells #[.string vd.m.name, .slice mv.a1 vd.m.attrs.length mv.c1, .slice mv.a2 vd.m.events.length mv.c2, .slice mv.a3 vd.m.stages.length mv.c3, .slice mv.a4 vd.m.stones.length mv.c4, .slice mv.a5 vd.m.apart.length mv.c5, .int .i64 vd.v] 55)).heap.size = Z3.heap.size + 1 + 1 := by simp
    have hlz : L.heap.size ≤ Z3.heap.size := HLB2.out.size
    have g1 : Below Z3.heap.size Z3 (Z3.alloc (.cells #[.string ud.n, .string ud.s, .string ud.p, .slice ua1 ud.rs.length uc1] 25)) := (Below.refl _ _).alloc (Nat.le_refl _) _
    have g2 : Below (Z3.alloc (.cells #[.string ud.n, .string ud.s, .string ud.p, .slice ua1 ud.rs.length uc1] 25)).heap.size (Z3.alloc (.cells #[.string ud.n, .string ud.s, .string ud.p, .slice ua1 ud.rs.length uc1] 25)) ((Z3.alloc (.cells #[.string ud.n, .string ud.s, .string ud.p, .slice ua1 ud.rs.length uc1] 25)).alloc (.cells #[.string vd.m.name, .slice mv.a1 vd.m.attrs.length mv.c1, .slice mv.a2 vd.m.events.length mv.c2, .slice mv.a3 vd.m.stages.length mv.c3, .slice mv.a4 vd.m.stones.length mv.c4, .slice mv.a5 vd.m.apart.length mv.c5, .int .i64 vd.v] 55)) := (Below.refl _ _).alloc (Nat.le_refl _) _
    have g3 : Below ((Z3.alloc (.cells #[.string ud.n, .string ud.s, .string ud.p, .slice ua1 ud.rs.length uc1] 25)).alloc (.cells #[.string vd.m.name, .slice mv.a1 vd.m.attrs.length mv.c1, .slice mv.a2 vd.m.events.length mv.c2, .slice mv.a3 vd.m.stages.length mv.c3, .slice mv.a4 vd.m.stones.length mv.c4, .slice mv.a5 vd.m.apart.length mv.c5, .int .i64 vd.v] 55)).heap.size ((Z3.alloc (.cells #[.string ud.n, .string ud.s, .string ud.p, .slice ua1 ud.rs.length uc1] 25)).alloc (.cells #[.string vd.m.name, .slice mv.a1 vd.m.attrs.length mv.c1, .slice mv.a2 vd.m.events.length mv.c2, .slice mv.a3 vd.m.stages.length mv.c3, .slice mv.a4 vd.m.stones.length mv.c4, .slice mv.a5 vd.m.apart.length mv.c5, .int .i64 vd.v] 55)) (((Z3.alloc (.cells #[.string ud.n, .string ud.s, .string ud.p, .slice ua1 ud.rs.length uc1] 25)).alloc (.cells #[.string vd.m.name, .slice mv.a1 vd.m.attrs.length mv.c1, .slice mv.a2 vd.m.events.length mv.c2, .slice mv.a3 vd.m.stages.length mv.c3, .slice mv.a4 vd.m.stones.length mv.c4, .slice mv.a5 vd.m.apart.length mv.c5, .int .i64 vd.v] 55)).alloc (.cells #[.int .i64 cd.id, .string cd.model, .int .i64 cd.version, .slice pa1 cd.values.length pc1, .slice pa2 cd.opn.length pc2, .slice pa3 cd.done.length pc3, .slice pa4 cd.acted.length pc4] 64)) := (Below.refl _ _).alloc (Nat.le_refl _) _
    have mz0 := (HIm.out.call g1).bx.cellAt 0 rfl
    have mz1 := (HIm.out.call g1).bx.cellAt 1 rfl
    have mz2 := (HIm.out.call g1).bx.cellAt 2 rfl
    have mz3 := (HIm.out.call g1).bx.cellAt 3 rfl
    have mz4 := (HIm.out.call g1).bx.cellAt 4 rfl
    have mz5 := (HIm.out.call g1).bx.cellAt 5 rfl
    have mz6 := (HIm.out.call g1).bx.cellAt 6 rfl
    have pz0 := ((HIp.out.call g1).call g2).bx.cellAt 0 rfl
    have pz1 := ((HIp.out.call g1).call g2).bx.cellAt 1 rfl
    have pz2 := ((HIp.out.call g1).call g2).bx.cellAt 2 rfl
    have pz3 := ((HIp.out.call g1).call g2).bx.cellAt 3 rfl
    have pz4 := ((HIp.out.call g1).call g2).bx.cellAt 4 rfl
    have pz5 := ((HIp.out.call g1).call g2).bx.cellAt 5 rfl
    have pz6 := ((HIp.out.call g1).call g2).bx.cellAt 6 rfl
    have sU := (((shp_box 25 (ShpL.of HIu.out.mm) hlz).kept (fun k _ hk => g2.block k hk) g2.size).kept (fun k _ hk => g3.block k hk) g3.size)
    have sM := (shp_box 55 (ShpL.of (HIm.out.mm.grow g1)) (by rw [e1]; omega)).kept (fun k _ hk => g3.block k hk) g3.size
    have sC := shp_box 64 (ShpL.of ((HIp.out.mm.grow g1).grow g2)) (by rw [e2]; omega)
    have sM2 := sM
    have sC2 := sC
    rw [e1] at sM2
    rw [e2] at sC2
    have hsh : ShpL L.heap.size (((Z3.alloc (.cells #[.string ud.n, .string ud.s, .string ud.p, .slice ua1 ud.rs.length uc1] 25)).alloc (.cells #[.string vd.m.name, .slice mv.a1 vd.m.attrs.length mv.c1, .slice mv.a2 vd.m.events.length mv.c2, .slice mv.a3 vd.m.stages.length mv.c3, .slice mv.a4 vd.m.stones.length mv.c4, .slice mv.a5 vd.m.apart.length mv.c5, .int .i64 vd.v] 55)).alloc (.cells #[.int .i64 cd.id, .string cd.model, .int .i64 cd.version, .slice pa1 cd.values.length pc1, .slice pa2 cd.opn.length pc2, .slice pa3 cd.done.length pc3, .slice pa4 cd.acted.length pc4] 64)) (StateD.ds ⟨0, ⟨#[]⟩, [ud], [], [vd], [cd], [], [], [], [], 0, 0, 0, 0⟩) [.int .i64 0, .string ⟨#[]⟩, .slice (some ⟨Z3.heap.size, 0, none⟩) 1 1, .slice none 0 0, .slice (some ⟨Z3.heap.size + 1, 0, none⟩) 1 1, .slice (some ⟨Z3.heap.size + 1 + 1, 0, none⟩) 1 1, .slice none 0 0, .slice none 0 0, .slice none 0 0, .slice none 0 0, .int .i64 0, .int .i64 0, .int .i64 0, .int .i64 0] :=
      .cons (.atom _ _ (.refl _)) (.cons (.atom _ _ (.refl _)) (.cons sU (.cons (Shp.of (nil_mem _ _ _ 3)) (.cons sM2 (.cons sC2 (.cons (Shp.of (nil_mem _ _ _ 5)) (.cons (Shp.of (nil_mem _ _ _ 6)) (.cons (Shp.of (nil_mem _ _ _ 6)) (.cons (Shp.of (nil_mem _ _ _ 3)) (.cons (.atom _ _ (.refl _)) (.cons (.atom _ _ (.refl _)) (.cons (.atom _ _ (.refl _)) (.cons (.atom _ _ (.refl _)) (ShpL.nil _ _))))))))))))))
    have HSP : Hid (Calls Tryz.prog 19 #[.agg #[.int .i64 0, .string ⟨#[]⟩, .slice (some ⟨Z3.heap.size, 0, none⟩) 1 1, .slice none 0 0, .slice (some ⟨Z3.heap.size + 1, 0, none⟩) 1 1, .slice (some ⟨Z3.heap.size + 1 + 1, 0, none⟩) 1 1, .slice none 0 0, .slice none 0 0, .slice none 0 0, .slice none 0 0, .int .i64 0, .int .i64 0, .int .i64 0, .int .i64 0]] (((Z3.alloc (.cells #[.string ud.n, .string ud.s, .string ud.p, .slice ua1 ud.rs.length uc1] 25)).alloc (.cells #[.string vd.m.name, .slice mv.a1 vd.m.attrs.length mv.c1, .slice mv.a2 vd.m.events.length mv.c2, .slice mv.a3 vd.m.stages.length mv.c3, .slice mv.a4 vd.m.stones.length mv.c4, .slice mv.a5 vd.m.apart.length mv.c5, .int .i64 vd.v] 55)).alloc (.cells #[.int .i64 cd.id, .string cd.model, .int .i64 cd.version, .slice pa1 cd.values.length pc1, .slice pa2 cd.opn.length pc2, .slice pa3 cd.done.length pc3, .slice pa4 cd.acted.length pc4] 64)) fun e w' => e = .returned (.tuple #[]) ∧ Below L.heap.size (((Z3.alloc (.cells #[.string ud.n, .string ud.s, .string ud.p, .slice ua1 ud.rs.length uc1] 25)).alloc (.cells #[.string vd.m.name, .slice mv.a1 vd.m.attrs.length mv.c1, .slice mv.a2 vd.m.events.length mv.c2, .slice mv.a3 vd.m.stages.length mv.c3, .slice mv.a4 vd.m.stones.length mv.c4, .slice mv.a5 vd.m.apart.length mv.c5, .int .i64 vd.v] 55)).alloc (.cells #[.int .i64 cd.id, .string cd.model, .int .i64 cd.version, .slice pa1 cd.values.length pc1, .slice pa2 cd.opn.length pc2, .slice pa3 cd.done.length pc3, .slice pa4 cd.acted.length pc4] 64)) w') :=
      spoilM ⟨0, ⟨#[]⟩, [ud], [], [vd], [cd], [], [], [], [], 0, 0, 0, 0⟩ rfl rfl rfl rfl rfl (by show 1 ≤ 1048576; omega) (by show 1 ≤ 1048576; omega) (by show 1 ≤ 1048576; omega) (fun x hx => by rw [List.mem_singleton.1 hx]; exact HUD.out) (fun x hx => by rw [List.mem_singleton.1 hx]; exact ⟨HVD.out.sl, fun s hs => (HVD.out.so s hs).1⟩) (fun x hx => by rw [List.mem_singleton.1 hx]; exact HCD.out.ol)
        L.heap.size _ _ hsh (by have := g3.size; omega)
    have HLV := Lib.hid (HLB2.out.trans ((g1.trans (g2.mono g1.size)).trans (g3.mono (Nat.le_trans g1.size g2.size)) |>.mono hlz))
    clear sU sM sM2 sC sC2 hsh e1 e2 g1 g2 g3 hlz HIu HIm HIp HLB2
    go_wp2_with fail
    refine HSP.out.mono ?_
    rintro e Z5 ⟨rfl, hb5⟩
    clear u0 u1 u2 u3
    clear mz0 pz0 mz1 pz1 mz2 pz2 mz3 pz3 mz4 pz4 mz5 pz5 mz6 pz6
    have HQ := Lib.hid (HP.out.call (HLV.out.trans hb5))
    clear HLV hb5 HSP
    have k0 := HQ.out.o.cellAt 0 rfl
    have k1 := HQ.out.o.cellAt 1 rfl
    have k2 := HQ.out.o.cellAt 2 rfl
    have k3 := HQ.out.o.cellAt 3 rfl
    have k4 := HQ.out.o.cellAt 4 rfl
    have k5 := HQ.out.o.cellAt 5 rfl
    have k6 := HQ.out.o.cellAt 6 rfl
    have k7 := HQ.out.o.cellAt 7 rfl
    have k8 := HQ.out.o.cellAt 8 rfl
    have k9 := HQ.out.o.cellAt 9 rfl
    have k10 := HQ.out.o.cellAt 10 rfl
    have k11 := HQ.out.o.cellAt 11 rfl
    have k12 := HQ.out.o.cellAt 12 rfl
    have k13 := HQ.out.o.cellAt 13 rfl
    have j0 := HQ.out.s.cellAt 0 rfl
    have j1 := HQ.out.s.cellAt 1 rfl
    have j2 := HQ.out.s.cellAt 2 rfl
    have j3 := HQ.out.s.cellAt 3 rfl
    have j4 := HQ.out.s.cellAt 4 rfl
    have j5 := HQ.out.s.cellAt 5 rfl
    have j6 := HQ.out.s.cellAt 6 rfl
    have j7 := HQ.out.s.cellAt 7 rfl
    have j8 := HQ.out.s.cellAt 8 rfl
    have j9 := HQ.out.s.cellAt 9 rfl
    have j10 := HQ.out.s.cellAt 10 rfl
    have j11 := HQ.out.s.cellAt 11 rfl
    have j12 := HQ.out.s.cellAt 12 rfl
    have j13 := HQ.out.s.cellAt 13 rfl
    have HSS : Hid (Calls Tryz.prog 8 #[.agg #[.int .i64 sd.clock, .string sd.secret, .slice d1z sd.users.length f1, .slice d2 sd.roles.length f2, .slice d3 sd.models.length f3, .slice d4 sd.cases.length f4, .slice d5 sd.timers.length f5, .slice d6 sd.works.length f6, .slice d7 sd.audit.length f7, .slice d8 sd.sess.length f8, .int .i64 sd.nc, .int .i64 sd.nw, .int .i64 sd.np, .int .i64 sd.nt], .agg #[.int .i64 sd.clock, .string sd.secret, .slice a1 sd.users.length c1, .slice a2 sd.roles.length c2, .slice a3 sd.models.length c3, .slice a4 sd.cases.length c4, .slice a5 sd.timers.length c5, .slice a6 sd.works.length c6, .slice a7 sd.audit.length c7, .slice a8 sd.sess.length c8, .int .i64 sd.nc, .int .i64 sd.nw, .int .i64 sd.np, .int .i64 sd.nt]] Z5 fun e w' => e = .returned (.bool true) ∧ Below Z5.heap.size Z5 w') := stateSame sd HOK.out _ _ Z5 HQ.out.mo HQ.out.ms
    go_wp2_with fail
    refine HSS.out.mono ?_
    rintro e Z6 ⟨rfl, hb6⟩
    have HEND := Lib.hid (HQ.out.below.trans (hb6.mono HQ.out.below.size))
    clear k0 k1 k2 k3 k4 k5 k6 k7 k8 k9 k10 k11 k12 k13
    clear j0 j1 j2 j3 j4 j5 j6 j7 j8 j9 j10 j11 j12 j13
    go_wp2_with fail
    go_ret
    exact ⟨rfl, HEND.out⟩
end Go.Proofs.YtinijohmdljieaaGreatDoor
