/- docketref24.Whose. -/
import Derived.Test.YtinijohmdljieaaGreatDoorH19
namespace Go.Proofs.YtinijohmdljieaaGreatDoor
open Go.RowKit

theorem ret_refWhose {r : Nat} {W : World} {a : Act} {u0 u1 u2 u3 v : Value} {R : Ending → World → Prop} (hp : a.tmps.getD 4 undef = .pointer (some ⟨r, 0, none⟩)) (hv : a.tmps.getD 5 undef = v) (hd : a.defers = [])
    (h0 : W.cell? ⟨r, 0, none⟩ = some u0) (h1 : W.cell? ⟨r, 1, none⟩ = some u1) (h2 : W.cell? ⟨r, 2, none⟩ = some u2) (h3 : W.cell? ⟨r, 3, none⟩ = some u3)
    (hR : R (.returned (.tuple #[.agg #[u0, u1, u2, u3], v])) W) : bodyPost Tryz.prog Tryz.f11 R .ret a W := by
  refine bodyPost_ret ?_ hd hR
  subst hv
  have hp' : a.tmps[4]?.getD undef = .pointer (some ⟨r, 0, none⟩) := by simpa using hp
  simp [results, Tryz.results11, hp', go_sem, h0, h1, h2, h3]
set_option maxHeartbeats 8000000 in
set_option maxRecDepth 100000 in
theorem refWhose (sd : StateD) (hok : sd.Ok) (us : List Value) (token : ByteArray) (ht : token.size ≤ 900000) (w : World) (hm : MemL false (From 0) w sd.ds us) (s : Sess) (x : Int) (hr : ReadIs sd.secret.data.toList token.data.toList sd.clock s x) :
    Calls Tryz.prog 11 #[.agg us.toArray, .string token] w (AnsEnd false (From 0) (whoseOut sd s x).ds (whoseCode sd s x) w) := by
  obtain ⟨a1, c1, a2, c2, a3, c3, a4, c4, a5, c5, a6, c6, a7, c7, a8, c8, rfl, hM⟩ := StateD.cells hm
  obtain ⟨_, _, b, off, hv, -, hC⟩ := rec_open hM.u
  obtain ⟨_, _, b2, off2, hv2, -, hC2⟩ := flat_open hM.e
  injection hv with e1 e2 e3
  injection hv2 with e4 e5 e6
  subst e1 e3 e4 e6
  have HB0 := Lib.hid (SR.start1 w 25 4 #[.int .i64 sd.clock, .string sd.secret, .slice a1 sd.users.length c1, .slice a2 sd.roles.length c2, .slice a3 sd.models.length c3, .slice a4 sd.cases.length c4, .slice a5 sd.timers.length c5, .slice a6 sd.works.length c6, .slice a7 sd.audit.length c7, .slice a8 sd.sess.length c8, .int .i64 sd.nc, .int .i64 sd.nw, .int .i64 sd.np, .int .i64 sd.nt] #[.string ⟨#[]⟩, .string ⟨#[]⟩, .string ⟨#[]⟩, .slice none 0 0] rfl rfl)
  have HC := Lib.hid hC
  have HC2 := Lib.hid hC2
  have HRD := Lib.hid (fun W (_ : Below w.heap.size w W) => refRead_walk sd.secret token sd.clock W ht)
  have HUX : Hid (∀ W, Below w.heap.size w W → ∀ name : ByteArray, Calls Tryz.prog 43 #[.agg #[.int .i64 sd.clock, .string sd.secret, .slice a1 sd.users.length c1, .slice a2 sd.roles.length c2, .slice a3 sd.models.length c3, .slice a4 sd.cases.length c4, .slice a5 sd.timers.length c5, .slice a6 sd.works.length c6, .slice a7 sd.audit.length c7, .slice a8 sd.sess.length c8, .int .i64 sd.nc, .int .i64 sd.nw, .int .i64 sd.np, .int .i64 sd.nt], .string name] W fun e w' => e = .returned (.int .i64 (userIx sd.users name)) ∧ Below W.heap.size W w') := fun W hb name => refUser sd _ name W hok.ul (hm.grow hb)
  generalize hQ : AnsEnd false (From 0) (whoseOut sd s x).ds (whoseCode sd s x) w = Q
  have HQ := Lib.hid hQ
  have HR := Lib.hid hr
  have hul := hok.ul
  have hsl := hok.sl
  clear hm hM hC hC2 e2 e5 hQ hok hr ht
  go_enter Tryz.func11, Tryz.ntmps11
  go_upto_region 1 with fail
  revert HB0
  generalize ((w.alloc (.cells #[.int .i64 sd.clock, .string sd.secret, .slice a1 sd.users.length c1, .slice a2 sd.roles.length c2, .slice a3 sd.models.length c3, .slice a4 sd.cases.length c4, .slice a5 sd.timers.length c5, .slice a6 sd.works.length c6, .slice a7 sd.audit.length c7, .slice a8 sd.sess.length c8, .int .i64 sd.nc, .int .i64 sd.nw, .int .i64 sd.np, .int .i64 sd.nt] 35)).alloc (.cells #[.string ⟨#[]⟩, .string ⟨#[]⟩, .string ⟨#[]⟩, .slice none 0 0] 25)) = W0
  intro HB0
  have k0 := HB0.out.cp 0 _ rfl
  have k1 := HB0.out.cp 1 _ rfl
  go_wp2_with fail
  refine (HRD.out _ HB0.out.below).mono ?_
  rintro e W1 ⟨⟨s', x', hr', rfl⟩, hb1⟩
  obtain ⟨rfl, rfl⟩ := ReadIs.unique hr' HR.out
  have HB1 := Lib.hid (HB0.out.call hb1)
  have HW : Hid (WX w (W1.alloc (.cells #[.int .i64 s'.id, .string ⟨s'.user.toArray⟩, .int .i64 s'.untl] 90)) sd W1.heap.size s' a1 c1 a2 c2 a3 c3 a4 c4 a5 c5 a6 c6 a7 c7 a8 c8) := by
    have ho := ownBox W1 #[.int .i64 s'.id, .string ⟨s'.user.toArray⟩, .int .i64 s'.untl] 90 3 W1.heap.size (Nat.le_refl _) rfl
    exact ⟨HB1.out.call ((Below.refl _ _).alloc (Nat.le_refl _) _), ho.cellAt 0 rfl, ho.cellAt 1 rfl, ho.cellAt 2 rfl⟩
  clear k0 k1 hr' hb1 HB0 HB1 HRD HR
  go_upto_region 2 with fail
  revert HW
  generalize W1.alloc (.cells #[.int .i64 s'.id, .string ⟨s'.user.toArray⟩, .int .i64 s'.untl] 90) = W2
  generalize W1.heap.size = g1
  intro HW
  by_cases hx : x' = 0
  rotate_left
  · obtain ⟨ho1, ho2⟩ := whose_err (sd := sd) (s := s') hx
    rw [ho1, ho2] at HQ
    have hxb : (x' != 0) = true := by rw [bne, beq_eq_false_iff_ne.2 hx]; rfl
    clear ho1 ho2 hx
    have q0 := HW.out.sr.cq 0 _ rfl
    have q1 := HW.out.sr.cq 1 _ rfl
    have q2 := HW.out.sr.cq 2 _ rfl
    have q3 := HW.out.sr.cq 3 _ rfl
    have hf := HW.out.sr.fq
    go_wp2_with fail
    have h7 := (((HW.out.sr.setQ 0 (.string ⟨#[]⟩)).setQ 1 (.string ⟨#[]⟩)).setQ 2 (.string ⟨#[]⟩)).setQ 3 (.slice none 0 0)
    refine ret_refWhose (r := w.heap.size + 1) rfl rfl rfl (h7.cq 0 _ rfl) (h7.cq 1 _ rfl) (h7.cq 2 _ rfl) (h7.cq 3 _ rfl) ?_
    rw [← HQ.out]
    exact ⟨_, rfl, zeroUser_mem _ _ _, h7.below⟩
  subst hx
  have hxb : ((0 : Int) != 0) = false := rfl
  have HI := Lib.hid (HUX.out W2 HW.out.sr.below ⟨s'.user.toArray⟩)
  have x1 := HW.out.x1
  have k0 := HW.out.sr.cp 0 _ rfl
  have k1 := HW.out.sr.cp 1 _ rfl
  have k2 := HW.out.sr.cp 2 _ rfl
  have k3 := HW.out.sr.cp 3 _ rfl
  have k4 := HW.out.sr.cp 4 _ rfl
  have k5 := HW.out.sr.cp 5 _ rfl
  have k6 := HW.out.sr.cp 6 _ rfl
  have k7 := HW.out.sr.cp 7 _ rfl
  have k8 := HW.out.sr.cp 8 _ rfl
  have k9 := HW.out.sr.cp 9 _ rfl
  have k10 := HW.out.sr.cp 10 _ rfl
  have k11 := HW.out.sr.cp 11 _ rfl
  have k12 := HW.out.sr.cp 12 _ rfl
  have k13 := HW.out.sr.cp 13 _ rfl
  clear HUX
  go_wp2_with fail
  refine HI.out.mono ?_
  rintro e W3 ⟨rfl, hb3⟩
  have HW3 := Lib.hid (HW.out.call hb3)
  clear HI k0 k1 k2 k3 k4 k5 k6 k7 k8 k9 k10 k11 k12 k13 HW hb3 x1
  obtain ⟨n, hn⟩ : ∃ n, userIx sd.users ⟨s'.user.toArray⟩ = n := ⟨_, rfl⟩
  have HNI : Hid (n = -1 ∨ ∃ m : Nat, m < sd.users.length ∧ n = (m : Int)) := by
    rcases user_cases sd.users ⟨s'.user.toArray⟩ with ⟨m, h1, h2⟩ | h
    · exact .inr ⟨m, h1, by rw [← hn, h2]⟩
    · exact .inl (by rw [← hn, h])
  rw [hn]
  have HN0 := Lib.hid hn
  clear hn
  have k9 := HW3.out.sr.cp 9 _ rfl
  have k2 := HW3.out.sr.cp 2 _ rfl
  have x0 := HW3.out.x0
  have x1 := HW3.out.x1
  have x2 := HW3.out.x2
  obtain ⟨un, hun⟩ : ∃ un : ByteArray, (⟨s'.user.toArray⟩ : ByteArray) = un := ⟨_, rfl⟩
  rw [hun] at x1
  have HUN := Lib.hid hun
  clear hun
  go_wp2_with fail
  go_loopw [9] (fun i wr => ∃ m : Nat, m ≤ sd.sess.length ∧ i = .int .i64 (m : Int) ∧ Hid (∀ j (hj : j < sd.sess.length), j < m → n < 0 ∨ sEq (sessOf s') sd.sess[j] = false) ∧ Hid (∃ k, wr = W3.drewN k)) (fun i _ => sd.sess.length - (intOf i).toNat)
  case atStart => exact ⟨0, Nat.zero_le _, rfl, fun j _ h => absurd h (Nat.not_lt_zero _), ⟨0, rfl⟩⟩
  case round =>
    obtain ⟨m, hml, rfl, HNO, hwr⟩ := hrel
    obtain ⟨kk, rfl⟩ := hwr.out
    clear hwr
    by_cases hlt : m < sd.sess.length
    · have i1 : (m : Int) < (sd.sess.length : Int) := by omega
      have i2 : (0 : Int) ≤ (m : Int) := by omega
      have wr1 : IntKind.i64.wrap ((m : Int) + 1) = (m : Int) + 1 := wrap_i64 (by omega) (by omega)
      have HLT := Lib.hid hlt
      obtain ⟨rfl, -, -⟩ := HC2.out.at0 (by omega)
      obtain ⟨t, ht⟩ : ∃ t, t = sd.sess[m] := ⟨_, rfl⟩
      have r0 : W3.cell? ⟨b2, off2 + m * 3, none⟩ = some (.int .i64 t.id) := cellBelow2 HW3.out.sr.below (HC2.out.cell m hlt 0 _ (by rw [ht]; rfl))
      have r1 : W3.cell? ⟨b2, off2 + m * 3 + 1, none⟩ = some (.string t.user) := cellBelow2 HW3.out.sr.below (HC2.out.cell m hlt 1 _ (by rw [ht]; rfl))
      have r2 : W3.cell? ⟨b2, off2 + m * 3 + 2, none⟩ = some (.int .i64 t.till) := cellBelow2 HW3.out.sr.below (HC2.out.cell m hlt 2 _ (by rw [ht]; rfl))
      have HT := Lib.hid ht
      obtain ⟨bb, hbb⟩ : ∃ bb, (t.id == s'.id && (t.user.toList == un.toList && t.till == s'.untl)) = bb := ⟨_, rfl⟩
      have HS : Hid (sEq (sessOf s') sd.sess[m] = bb) := by
        show _ = _
        rw [sEq_comm, ← hbb, ← HUN.out, HT.out]; rfl
      clear ht
      go_upto_region 8 with fail
      have hE : ∀ W, (binOp .eql 90 (.agg #[.int .i64 t.id, .string t.user, .int .i64 t.till]) (.agg #[.int .i64 s'.id, .string un, .int .i64 s'.untl])).run Tryz.prog W = .ok (.bool bb) W := fun W => by
        rw [← hbb]
        exact eqSess.1 t ⟨s'.id, un, s'.untl⟩ W
      clear hbb
      cases bb with
      | false =>
        go_quiet (fail)
        go_wp2_with fail
        refine ⟨⟨m + 1, HLT.out, by go_num, (show Hid _ from fun j hj hjm => ?_), (show Hid _ from ⟨kk + nq, by first | rfl | (rw [World.drewN_drewN]) | simp [World.drewN_add]⟩)⟩, by simp only [intOf]; have := HLT.out; omega⟩
        rcases Nat.lt_or_ge j m with h1 | h1
        · exact HNO.out j hj h1
        · obtain rfl : j = m := by omega
          exact .inr HS.out
      | true =>
        rcases HNI.out with rfl | ⟨m0, hm0, rfl⟩
        · go_quiet (fail)
          go_wp2_with fail
          refine ⟨⟨m + 1, HLT.out, by go_num, (show Hid _ from fun j hj hjm => ?_), (show Hid _ from ⟨kk + nq, by first | rfl | (rw [World.drewN_drewN]) | simp [World.drewN_add]⟩)⟩, by simp only [intOf]; have := HLT.out; omega⟩
          rcases Nat.lt_or_ge j m with h1 | h1
          · exact HNO.out j hj h1
          · obtain rfl : j = m := by omega
            exact .inl (by omega)
        · have i3 : (0 : Int) ≤ (m0 : Int) := by omega
          have i4 : (m0 : Int) < (sd.users.length : Int) := by omega
          have hany : sd.sess.any (sEq (sessOf s')) = true := by
            rw [List.any_eq_true]
            exact ⟨_, List.getElem_mem HLT.out, HS.out⟩
          obtain ⟨ho1, ho2⟩ := whose_yes (sd := sd) (s := s') hm0 HN0.out hany
          rw [ho1, ho2] at HQ
          obtain ⟨rfl, -, -⟩ := HC.out.at0 (by omega)
          obtain ⟨us, hus, hcell⟩ := HC.out.row m0 hm0
          obtain ⟨xa, xc, hu, -⟩ := UserD.cells hus
          subst hu
          have HUS := Lib.hid hus
          have HM0 := Lib.hid hm0
          have y0 : W3.cell? ⟨b, off + m0 * 4, none⟩ = some (.string sd.users[m0].n) := cellBelow2 HW3.out.sr.below (hcell 0 _ rfl)
          have y1 : W3.cell? ⟨b, off + m0 * 4 + 1, none⟩ = some (.string sd.users[m0].s) := cellBelow2 HW3.out.sr.below (hcell 1 _ rfl)
          have y2 : W3.cell? ⟨b, off + m0 * 4 + 2, none⟩ = some (.string sd.users[m0].p) := cellBelow2 HW3.out.sr.below (hcell 2 _ rfl)
          have y3 : W3.cell? ⟨b, off + m0 * 4 + 3, none⟩ = some (.slice xa sd.users[m0].rs.length xc) := cellBelow2 HW3.out.sr.below (hcell 3 _ rfl)
          have q0 := HW3.out.sr.cq 0 _ rfl
          have q1 := HW3.out.sr.cq 1 _ rfl
          have q2 := HW3.out.sr.cq 2 _ rfl
          have q3 := HW3.out.sr.cq 3 _ rfl
          have hf := HW3.out.sr.fq
          clear hus hcell ho1 ho2 hany
          go_quiet (fail)
          go_wp2_with fail
          have h7 := ((((HW3.out.sr.call (below_drewN (Below.refl _ _) (kk + nq))).setQ 0 (.string sd.users[m0].n)).setQ 1 (.string sd.users[m0].s)).setQ 2 (.string sd.users[m0].p)).setQ 3 (.slice xa sd.users[m0].rs.length xc)
          refine ret_refWhose (r := w.heap.size + 1) rfl rfl rfl (h7.cq 0 _ rfl) (h7.cq 1 _ rfl) (h7.cq 2 _ rfl) (h7.cq 3 _ rfl) ?_
          rw [← HQ.out]
          exact ⟨_, rfl, HUS.out.grow h7.below, h7.below⟩
    · obtain rfl : m = sd.sess.length := by omega
      have i1 : ¬ (sd.sess.length : Int) < (sd.sess.length : Int) := by omega
      have hno : userIx sd.users ⟨s'.user.toArray⟩ < 0 ∨ sd.sess.any (sEq (sessOf s')) = false := by
        rw [HN0.out]
        rcases HNI.out with rfl | ⟨m0, hm0, rfl⟩
        · exact .inl (by omega)
        · refine .inr (List.any_eq_false.2 fun y hy => ?_)
          obtain ⟨j, hj, rfl⟩ := List.mem_iff_getElem.1 hy
          rcases HNO.out j hj hj with h1 | h1
          · omega
          · rw [h1]; simp
      obtain ⟨ho1, ho2⟩ := whose_no (sd := sd) (s := s') hno
      rw [ho1, ho2] at HQ
      clear hno ho1 ho2
      have q0 := HW3.out.sr.cq 0 _ rfl
      have q1 := HW3.out.sr.cq 1 _ rfl
      have q2 := HW3.out.sr.cq 2 _ rfl
      have q3 := HW3.out.sr.cq 3 _ rfl
      have hf := HW3.out.sr.fq
      go_wp2_with fail
      have h7 := ((((HW3.out.sr.call (below_drewN (Below.refl _ _) kk)).setQ 0 (.string ⟨#[]⟩)).setQ 1 (.string ⟨#[]⟩)).setQ 2 (.string ⟨#[]⟩)).setQ 3 (.slice none 0 0)
      refine ret_refWhose (r := w.heap.size + 1) rfl rfl rfl (h7.cq 0 _ rfl) (h7.cq 1 _ rfl) (h7.cq 2 _ rfl) (h7.cq 3 _ rfl) ?_
      rw [← HQ.out]
      exact ⟨_, rfl, zeroUser_mem _ _ _, h7.below⟩
end Go.Proofs.YtinijohmdljieaaGreatDoor
