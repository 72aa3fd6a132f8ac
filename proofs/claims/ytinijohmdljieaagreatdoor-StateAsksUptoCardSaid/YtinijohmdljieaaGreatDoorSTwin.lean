/- docketref24.Twin at any state: the walk. -/
import Derived.Test.YtinijohmdljieaaGreatDoorH10
import Derived.Deep.RegionHeld3
namespace Go.Proofs.YtinijohmdljieaaGreatDoor
open Go.RowKit

theorem ret_stwin {w W : World} {rb : Nat} {a : Act} {x z : List Value} {sd : StateD} {R : Ending → World → Prop} (v1 v2 v3 v4 v5 v6 v7 v8 : Value) (h : C3 35 14 rb w W x (stateC sd v1 v2 v3 v4 v5 v6 v7 v8) z) (hp : a.tmps.getD 2 undef = .pointer (some ⟨w.heap.size + 1, 0, none⟩)) (hd : a.defers = [])
    (hR : R (.returned (.agg (stateC sd v1 v2 v3 v4 v5 v6 v7 v8).toArray)) W) : bodyPost Tryz.prog Tryz.f9 R .ret a W := by
  refine bodyPost_ret ?_ hd hR
  have hp' : a.tmps[2]?.getD undef = .pointer (some ⟨w.heap.size + 1, 0, none⟩) := by simpa using hp
  simp [results, Tryz.results9, hp', go_sem, h.cq 0 _ rfl, h.cq 1 _ rfl, h.cq 2 _ rfl, h.cq 3 _ rfl, h.cq 4 _ rfl, h.cq 5 _ rfl, h.cq 6 _ rfl, h.cq 7 _ rfl, h.cq 8 _ rfl, h.cq 9 _ rfl, h.cq 10 _ rfl, h.cq 11 _ rfl, h.cq 12 _ rfl, h.cq 13 _ rfl]
/-- how a state's copy ends -/
def SEnd (sd : StateD) (w : World) (e : Ending) (w' : World) : Prop := ∃ us, e = .returned (.agg us.toArray) ∧ MemL true (From w.heap.size) w' sd.ds us ∧ Below w.heap.size w w'
set_option maxHeartbeats 16000000 in
set_option maxRecDepth 100000 in
theorem stateTwin (sd : StateD) (hok : sd.Ok) (us : List Value) (w : World) (hm : MemL false (From 0) w sd.ds us) : Calls Tryz.prog 9 #[.agg us.toArray] w (SEnd sd w) := by
  obtain ⟨a1, c1, a2, c2, a3, c3, a4, c4, a5, c5, a6, c6, a7, c7, a8, c8, rfl, hM⟩ := StateD.cells hm
  obtain ⟨_, _, b1, o1, hv1, -, hS1⟩ := rec_open hM.u
  obtain ⟨_, _, b2, o2, hv2, -, hS2⟩ := rec_open hM.r
  obtain ⟨_, _, b3, o3, hv3, -, hS3⟩ := rec_open hM.m
  obtain ⟨_, _, b4, o4, hv4, -, hS4⟩ := rec_open hM.c
  injection hv1 with h1 h1' h1''
  injection hv2 with h2 h2' h2''
  injection hv3 with h3 h3' h3''
  injection hv4 with h4 h4' h4''
  subst h1 h1'' h2 h2'' h3 h3'' h4 h4''
  have HM := Lib.hid hM
  have H1 := Lib.hid hS1
  have H2 := Lib.hid hS2
  have H3 := Lib.hid hS3
  have H4 := Lib.hid hS4
  have HO := Lib.hid hok
  have HUO := Lib.hid hok.uo
  have HRO := Lib.hid hok.ro
  have HMO := Lib.hid hok.mo
  have HCO := Lib.hid hok.co
  have lu := hok.ul
  have lr := hok.rl
  have lm := hok.ml
  have lc := hok.cl
  have HDS : Hid (∀ W us, MemL true (From w.heap.size) W sd.ds us → Below w.heap.size w W → SEnd sd w (.returned (.agg us.toArray)) W) := fun W us h1 h2 => ⟨us, rfl, h1, h2⟩
  generalize SEnd sd w = R at HDS ⊢
  have HT0 := Lib.hid (UB.start3 w 35 14 #[.int .i64 sd.clock, .string sd.secret, .slice a1 sd.users.length c1, .slice a2 sd.roles.length c2, .slice a3 sd.models.length c3, .slice a4 sd.cases.length c4, .slice a5 sd.timers.length c5, .slice a6 sd.works.length c6, .slice a7 sd.audit.length c7, .slice a8 sd.sess.length c8, .int .i64 sd.nc, .int .i64 sd.nw, .int .i64 sd.np, .int .i64 sd.nt] #[.int .i64 0, .string ⟨#[]⟩, .slice none 0 0, .slice none 0 0, .slice none 0 0, .slice none 0 0, .slice none 0 0, .slice none 0 0, .slice none 0 0, .slice none 0 0, .int .i64 0, .int .i64 0, .int .i64 0, .int .i64 0] #[.int .i64 sd.clock, .string sd.secret, .slice none 0 0, .slice a2 sd.roles.length c2, .slice a3 sd.models.length c3, .slice a4 sd.cases.length c4, .slice a5 sd.timers.length c5, .slice a6 sd.works.length c6, .slice a7 sd.audit.length c7, .slice a8 sd.sess.length c8, .int .i64 sd.nc, .int .i64 sd.nw, .int .i64 sd.np, .int .i64 sd.nt] rfl rfl rfl)
  clear hm hM hS1 hS2 hS3 hS4 hok h1' h2' h3' h4'
  go_enter Tryz.func9, Tryz.ntmps9
  go_upto_region 4 with fail
  revert HT0
  generalize (((w.alloc (.cells #[.int .i64 sd.clock, .string sd.secret, .slice a1 sd.users.length c1, .slice a2 sd.roles.length c2, .slice a3 sd.models.length c3, .slice a4 sd.cases.length c4, .slice a5 sd.timers.length c5, .slice a6 sd.works.length c6, .slice a7 sd.audit.length c7, .slice a8 sd.sess.length c8, .int .i64 sd.nc, .int .i64 sd.nw, .int .i64 sd.np, .int .i64 sd.nt] 35)).alloc (.cells #[.int .i64 0, .string ⟨#[]⟩, .slice none 0 0, .slice none 0 0, .slice none 0 0, .slice none 0 0, .slice none 0 0, .slice none 0 0, .slice none 0 0, .slice none 0 0, .int .i64 0, .int .i64 0, .int .i64 0, .int .i64 0] 35)).alloc (.cells #[.int .i64 sd.clock, .string sd.secret, .slice none 0 0, .slice a2 sd.roles.length c2, .slice a3 sd.models.length c3, .slice a4 sd.cases.length c4, .slice a5 sd.timers.length c5, .slice a6 sd.works.length c6, .slice a7 sd.audit.length c7, .slice a8 sd.sess.length c8, .int .i64 sd.nc, .int .i64 sd.nw, .int .i64 sd.np, .int .i64 sd.nt] 35)) = W2
  intro HT0
  have HT1 := Lib.hid (UA.start HT0.out 25 4 UserD.ds)
  clear HT0
  generalize W2.heap.size = M1 at HT1
  go_loopw [4] (fun j wx => ∃ (m : Nat) (vau : Option Addr) (vcu : Nat) (vs : List (List Value)), m ≤ sd.users.length ∧ j = .int .i64 m ∧ Hid (UA 35 14 (w.heap.size + 1 + 1) [] 25 4 UserD.ds w wx (stateC sd (.slice a1 sd.users.length c1) (.slice a2 sd.roles.length c2) (.slice a3 sd.models.length c3) (.slice a4 sd.cases.length c4) (.slice a5 sd.timers.length c5) (.slice a6 sd.works.length c6) (.slice a7 sd.audit.length c7) (.slice a8 sd.sess.length c8)) (stC ⟨#[]⟩ (.slice none 0 0) (.slice none 0 0)) (stateC sd (.slice vau m vcu) (.slice a2 sd.roles.length c2) (.slice a3 sd.models.length c3) (.slice a4 sd.cases.length c4) (.slice a5 sd.timers.length c5) (.slice a6 sd.works.length c6) (.slice a7 sd.audit.length c7) (.slice a8 sd.sess.length c8)) M1 vau vcu (sd.users.take m) vs)) (fun j _ => sd.users.length - (intOf j).toNat)
  case atStart => exact ⟨0, none, 0, [], Nat.zero_le _, rfl, HT1.out⟩
  case round =>
    clear HT1
    obtain ⟨m, vau, vcu, vs, hml, rfl, HT⟩ := hrel
    have kk := HT.out.bx.cp 2 _ rfl
    by_cases hlt : m < sd.users.length
    · obtain ⟨rfl, -, hbl⟩ := H1.out.at0 (by omega)
      obtain ⟨us0, hr, hcell⟩ := H1.out.row m hlt
      have hso := HUO.out _ (List.getElem_mem hlt)
      have HTL : Hid ((sd.users.take m).length = m) := by show _ = _; rw [List.length_take]; omega
      have HPU := Lib.hid (fun (W' : World) (hb : Below wr.heap.size wr W') (us : List Value) (hu : us.length = 4) (hx : (UserD.ds sd.users[m]).length = 4) (hm : MemL true (From wr.heap.size) W' (UserD.ds sd.users[m]) us) (h1 : ∀ u ∈ us, u.oneCell' = true) h63 hby => HT.out.push elemUser 27 hb hu hx hm h1 h63 hby)
      have HTK := Lib.hid (fun W8 vx vy vz h => UA.took (E := 35) (k := 14) (rb := w.heap.size + 1 + 1) (fs := []) (E2 := 25) (k2 := 4) (f := UserD.ds) (w := w) (W := W8) (x := (stateC sd (.slice (some ⟨b1, o1, none⟩) sd.users.length c1) (.slice a2 sd.roles.length c2) (.slice a3 sd.models.length c3) (.slice a4 sd.cases.length c4) (.slice a5 sd.timers.length c5) (.slice a6 sd.works.length c6) (.slice a7 sd.audit.length c7) (.slice a8 sd.sess.length c8))) (y := (stC ⟨#[]⟩ (.slice none 0 0) (.slice none 0 0))) (z := (stateC sd (.slice vau m vcu) (.slice a2 sd.roles.length c2) (.slice a3 sd.models.length c3) (.slice a4 sd.cases.length c4) (.slice a5 sd.timers.length c5) (.slice a6 sd.works.length c6) (.slice a7 sd.audit.length c7) (.slice a8 sd.sess.length c8))) (M := M1) (va := vx) (vc := vy) (vs := vz) (l := sd.users) hlt h)
      obtain ⟨st, hst⟩ : ∃ st, sd.users[m] = st := ⟨_, rfl⟩
      rw [hst] at hr hso HPU
      obtain ⟨sa, sc, rfl, hop⟩ := UserD.cells hr
      have e0 := cellBelow2 HT.out.bx.below (hcell 0 _ rfl)
      have e1 := cellBelow2 HT.out.bx.below (hcell 1 _ rfl)
      have e2 := cellBelow2 HT.out.bx.below (hcell 2 _ rfl)
      have e3 := cellBelow2 HT.out.bx.below (hcell 3 _ rfl)
      simp only [Nat.add_zero] at e0
      have hg1 := hop.grow HT.out.bx.below
      have HV0 := Lib.hid ((Below.refl wr.heap.size wr).alloc (Nat.le_refl _) (.cells #[.string st.n, .string st.s, .string st.p, .slice sa st.rs.length sc] 25))
      have HBx := Lib.hid (ownBox wr #[.string st.n, .string st.s, .string st.p, .slice sa st.rs.length sc] 25 4 wr.heap.size (Nat.le_refl _) rfl)
      have HW1 := Lib.hid (wordsM _ st.rs (wr.alloc (.cells #[.string st.n, .string st.s, .string st.p, .slice sa st.rs.length sc] 25)) hso (hg1.grow HV0.out))
      have HZ0 : Hid ((wr.alloc (.cells #[.string st.n, .string st.s, .string st.p, .slice sa st.rs.length sc] 25)).heap.size = wr.heap.size + 1) := by show _ = _; simp
      have i1 : (0 : Int) ≤ (m : Int) := by omega
      have i2 : (m : Int) < (sd.users.length : Int) := by omega
      clear hr hop hg1 hso hbl hcell HO H1
      go_wp2_with fail
      refine HW1.out.mono ?_
      rintro e w3 ⟨va3, vc3, rfl, hm1, hb⟩
      have HBx3 := Lib.hid (HBx.out.below hb (Nat.le_refl _))
      have hz3 : wr.heap.size + 1 ≤ w3.heap.size := by have := hb.size; rw [HZ0.out] at this; exact this
      rw [HZ0.out] at hm1
      have HB3 := Lib.hid (HV0.out.trans (hb.mono HV0.out.size))
      obtain ⟨hB7, hM1⟩ := one_new (wr := wr) (j1 := 3) (u1 := (.slice va3 st.rs.length vc3)) rfl hm1 HB3.out
      have g0 := HBx3.out.cellAt 0 rfl
      have g1 := HBx3.out.cellAt 1 rfl
      have g2 := HBx3.out.cellAt 2 rfl
      have g3 := HBx3.out.cellAt 3 rfl
      have gf := HBx3.out.frozenAt 3
      obtain ⟨g', vc', w8, hap, hA8, hg8⟩ := HPU.out _ hB7 [.string st.n, .string st.s, .string st.p, .slice va3 st.rs.length vc3] rfl rfl (.cons (.atom _) (.cons (.atom _) (.cons (.atom _) (.cons hM1 (MemL.nil _ _ _))))) (fun u hu => by simp only [List.mem_cons, List.not_mem_nil, or_false] at hu; rcases hu with rfl | rfl | rfl | rfl <;> rfl) (by rw [HTL.out]; unfold maxLen; omega) (by rw [HTL.out]; omega)
      rw [HTL.out] at hap
      have hz7 : (w3.setCell ⟨wr.heap.size, 3, none⟩ (.slice va3 st.rs.length vc3)).heap.size = w3.heap.size := by simp [World.setCell]
      rw [hz7] at hap
      have HAP1 := Lib.hid hap
      rw [← hst] at hA8
      have HN8 := Lib.hid (HTK.out _ _ _ _ hA8)
      have HT7 := Lib.hid (HT.out.call HB3.out)
      have u3 := HT7.out.bx.cr 2 _ rfl
      have u8 := HN8.out.bx.cr 2 _ rfl
      have uf8 := HN8.out.bx.fr 2
      have hne := HT.out.bx.lt
      have hne2 : w.heap.size + 1 + 1 ≠ wr.heap.size := by omega
      have hne3 : w.heap.size + 1 + 1 < w3.heap.size := by omega
      clear hap hA8 hg8 hm1 hb hz7 hB7 hM1 HBx3 HB3 HV0 HBx HW1 HZ0 HT hz3 HPU HTK HTL HT7 hst kk i1 i2 e0 e1 e2 e3
      go_wp2_with (at_builtin; refine wpList_append_run rfl (.tmp 29) (.tmp 31) 27 rfl rfl rfl HAP1.out ?_)
      have HN9 := Lib.hid (HN8.out.setR 2 (.slice (some ⟨g', 0, none⟩) (m + 1) vc'))
      go_roundw
      case rel => exact ⟨m + 1, _, _, _, by omega, by go_num, HN9⟩
      case measure => simp [intOf]; omega
    · have hme : m = sd.users.length := by omega
      subst hme
      have i1 : ¬ (sd.users.length : Int) < (sd.users.length : Int) := by omega
      have hd1 := HT.out.done (by omega)
      rw [List.take_of_length_le (Nat.le_refl _)] at hd1
      have HD1 := Lib.hid hd1
      clear HT hd1 H1
      have f3 := HD1.out.bx.fr 3
      have c3 := HD1.out.bx.cr 3 _ rfl
      have k3 := HD1.out.bx.cp 3 _ rfl
      go_upto_region 11 with fail
      have HTa := Lib.hid (HD1.out.setR 3 (.slice none 0 0))
      clear HD1 f3 c3 k3 kk
      revert HTa
      generalize wr.setCell ⟨w.heap.size + 1 + 1, 3, none⟩ (.slice none 0 0) = Y1
      intro HTa
      have HT2 := Lib.hid (UA.start HTa.out 81 3 RoleD.ds)
      clear HTa i1
      generalize Y1.heap.size = M2 at HT2
      go_loopw [6] (fun j wx => ∃ (m : Nat) (var : Option Addr) (vcr : Nat) (vs : List (List Value)), m ≤ sd.roles.length ∧ j = .int .i64 m ∧ Hid (UA 35 14 (w.heap.size + 1 + 1) [(.list 4 (sd.users.map UserD.ds), .slice vau sd.users.length vcu)] 81 3 RoleD.ds w wx (stateC sd (.slice a1 sd.users.length c1) (.slice a2 sd.roles.length c2) (.slice a3 sd.models.length c3) (.slice a4 sd.cases.length c4) (.slice a5 sd.timers.length c5) (.slice a6 sd.works.length c6) (.slice a7 sd.audit.length c7) (.slice a8 sd.sess.length c8)) (stC ⟨#[]⟩ (.slice none 0 0) (.slice none 0 0)) (stateC sd (.slice vau sd.users.length vcu) (.slice var m vcr) (.slice a3 sd.models.length c3) (.slice a4 sd.cases.length c4) (.slice a5 sd.timers.length c5) (.slice a6 sd.works.length c6) (.slice a7 sd.audit.length c7) (.slice a8 sd.sess.length c8)) M2 var vcr (sd.roles.take m) vs)) (fun j _ => sd.roles.length - (intOf j).toNat)
      case atStart => exact ⟨0, none, 0, [], Nat.zero_le _, rfl, HT2.out⟩
      case round =>
        clear HT2
        obtain ⟨m, var, vcr, vs, hml, rfl, HT⟩ := hrel
        have kk := HT.out.bx.cp 3 _ rfl
        by_cases hlt : m < sd.roles.length
        · obtain ⟨rfl, -, hbl⟩ := H2.out.at0 (by omega)
          obtain ⟨us0, hr, hcell⟩ := H2.out.row m hlt
          have hso := HRO.out _ (List.getElem_mem hlt)
          have HTL : Hid ((sd.roles.take m).length = m) := by show _ = _; rw [List.length_take]; omega
          have HPU := Lib.hid (fun (W' : World) (hb : Below wr.heap.size wr W') (us : List Value) (hu : us.length = 3) (hx : (RoleD.ds sd.roles[m]).length = 3) (hm : MemL true (From wr.heap.size) W' (RoleD.ds sd.roles[m]) us) (h1 : ∀ u ∈ us, u.oneCell' = true) h63 hby => HT.out.push elemRole 22 hb hu hx hm h1 h63 hby)
          have HTK := Lib.hid (fun W8 vx vy vz h => UA.took (E := 35) (k := 14) (rb := w.heap.size + 1 + 1) (fs := [(.list 4 (sd.users.map UserD.ds), .slice vau sd.users.length vcu)]) (E2 := 81) (k2 := 3) (f := RoleD.ds) (w := w) (W := W8) (x := (stateC sd (.slice a1 sd.users.length c1) (.slice (some ⟨b2, o2, none⟩) sd.roles.length c2) (.slice a3 sd.models.length c3) (.slice a4 sd.cases.length c4) (.slice a5 sd.timers.length c5) (.slice a6 sd.works.length c6) (.slice a7 sd.audit.length c7) (.slice a8 sd.sess.length c8))) (y := (stC ⟨#[]⟩ (.slice none 0 0) (.slice none 0 0))) (z := (stateC sd (.slice vau sd.users.length vcu) (.slice var m vcr) (.slice a3 sd.models.length c3) (.slice a4 sd.cases.length c4) (.slice a5 sd.timers.length c5) (.slice a6 sd.works.length c6) (.slice a7 sd.audit.length c7) (.slice a8 sd.sess.length c8))) (M := M2) (va := vx) (vc := vy) (vs := vz) (l := sd.roles) hlt h)
          obtain ⟨st, hst⟩ : ∃ st, sd.roles[m] = st := ⟨_, rfl⟩
          rw [hst] at hr hso HPU
          obtain ⟨sa, sc, sa2, sc2, rfl, hop, hcl⟩ := RoleD.cells hr
          have e0 := cellBelow2 HT.out.bx.below (hcell 0 _ rfl)
          have e1 := cellBelow2 HT.out.bx.below (hcell 1 _ rfl)
          have e2 := cellBelow2 HT.out.bx.below (hcell 2 _ rfl)
          simp only [Nat.add_zero] at e0
          have hg1 := hop.grow HT.out.bx.below
          have hg2 := hcl.grow HT.out.bx.below
          have HV0 := Lib.hid ((Below.refl wr.heap.size wr).alloc (Nat.le_refl _) (.cells #[.string st.name, .slice sa st.holds.length sc, .slice sa2 st.may.length sc2] 81))
          have HBx := Lib.hid (ownBox wr #[.string st.name, .slice sa st.holds.length sc, .slice sa2 st.may.length sc2] 81 3 wr.heap.size (Nat.le_refl _) rfl)
          have HW1 := Lib.hid (wordsM _ st.holds (wr.alloc (.cells #[.string st.name, .slice sa st.holds.length sc, .slice sa2 st.may.length sc2] 81)) hso.1 (hg1.grow HV0.out))
          have HW2 := Lib.hid (fun W (hb : Below wr.heap.size wr W) => wordsM _ st.may W hso.2 (hg2.grow hb))
          have HZ0 : Hid ((wr.alloc (.cells #[.string st.name, .slice sa st.holds.length sc, .slice sa2 st.may.length sc2] 81)).heap.size = wr.heap.size + 1) := by show _ = _; simp
          have i1 : (0 : Int) ≤ (m : Int) := by omega
          have i2 : (m : Int) < (sd.roles.length : Int) := by omega
          clear hr hop hcl hg1 hg2 hso hbl hcell HO H2
          go_wp2_with fail
          refine HW1.out.mono ?_
          rintro e w3 ⟨va3, vc3, rfl, hm1, hb⟩
          have HBx3 := Lib.hid (HBx.out.below hb (Nat.le_refl _))
          have hz3 : wr.heap.size + 1 ≤ w3.heap.size := by have := hb.size; rw [HZ0.out] at this; exact this
          rw [HZ0.out] at hm1
          have HM1 := Lib.hid hm1
          have HB3 := Lib.hid (HV0.out.trans (hb.mono HV0.out.size))
          have b1 := HBx3.out.cellAt 1 rfl
          have b2 := HBx3.out.cellAt 2 rfl
          have bf := HBx3.out.frozenAt 1
          clear hm1 hb HV0 HBx HW1 HZ0 kk i1 i2 e0 e1 e2
          go_wp2_with fail
          have HBx4 := Lib.hid (HBx3.out.set (j := 1) (.slice va3 st.holds.length vc3))
          have HB4 := Lib.hid (HB3.out.setCell (p := ⟨wr.heap.size, 1, none⟩) (Nat.le_refl _) (.slice va3 st.holds.length vc3))
          refine (HW2.out _ HB4.out).mono ?_
          rintro e w5 ⟨va4, vc4, rfl, hm2, hb⟩
          have hz5 : w3.heap.size ≤ w5.heap.size := by have := hb.size; simpa [World.setCell] using this
          have hz1 : (w3.setCell ⟨wr.heap.size, 1, none⟩ (.slice va3 st.holds.length vc3)).heap.size = w3.heap.size := by simp [World.setCell]
          have HBx5 := Lib.hid (HBx4.out.below hb (Nat.le_refl _))
          rw [hz1] at hm2 hb
          have hm2' := hm2.weak (P' := From (wr.heap.size + 1)) fun b hb2 _ => by have : w3.heap.size ≤ b := hb2; show wr.heap.size + 1 ≤ b; omega
          obtain ⟨hB7, hM1, hM2⟩ := two_new (wr := wr) (j1 := 1) (j2 := 2) (u2 := (.slice va4 st.may.length vc4)) rfl hz3 HM1.out HB3.out hm2' hb
          have g0 := HBx5.out.cellAt 0 rfl
          have g1 := HBx5.out.cellAt 1 rfl
          have g2 := HBx5.out.cellAt 2 rfl
          have gf := HBx5.out.frozenAt 2
          obtain ⟨g', vc', w8, hap, hA8, hg8⟩ := HPU.out _ hB7 [.string st.name, .slice va3 st.holds.length vc3, .slice va4 st.may.length vc4] rfl rfl (.cons (.atom _) (.cons hM1 (.cons hM2 (MemL.nil _ _ _)))) (fun u hu => by simp only [List.mem_cons, List.not_mem_nil, or_false] at hu; rcases hu with rfl | rfl | rfl <;> rfl) (by rw [HTL.out]; unfold maxLen; omega) (by rw [HTL.out]; omega)
          rw [HTL.out] at hap
          have hz7 : (w5.setCell ⟨wr.heap.size, 2, none⟩ (.slice va4 st.may.length vc4)).heap.size = w5.heap.size := by simp [World.setCell]
          rw [hz7] at hap
          have HAP1 := Lib.hid hap
          rw [← hst] at hA8
          have HN8 := Lib.hid (HTK.out _ _ _ _ hA8)
          have HT7 := Lib.hid (HT.out.call ((HB4.out.trans (hb.mono (by omega)))))
          have u3 := HT7.out.bx.cr 3 _ rfl
          have u8 := HN8.out.bx.cr 3 _ rfl
          have uf8 := HN8.out.bx.fr 3
          have hne := HT.out.bx.lt
          have hne2 : w.heap.size + 1 + 1 ≠ wr.heap.size := by omega
          have hne3 : w.heap.size + 1 + 1 < w5.heap.size := by have := HB3.out.size; omega
          clear hap hA8 hg8 hm2 hm2' hb hz5 hz1 hz7 hB7 hM1 hM2 HBx3 HBx4 HBx5 HB4 HB3 HM1 HW2 b1 b2 bf HT hz3 HPU HTK HTL HT7 hst
          go_wp2_with (at_builtin; refine wpList_append_run rfl (.tmp 56) (.tmp 58) 22 rfl rfl rfl HAP1.out ?_)
          have HN9 := Lib.hid (HN8.out.setR 3 (.slice (some ⟨g', 0, none⟩) (m + 1) vc'))
          have wr1 : True := trivial
          go_roundw
          case rel => exact ⟨m + 1, _, _, _, by omega, by go_num, HN9⟩
          case measure => simp [intOf]; omega
        · have hme : m = sd.roles.length := by omega
          subst hme
          have i1 : ¬ (sd.roles.length : Int) < (sd.roles.length : Int) := by omega
          have hd1 := HT.out.done (by omega)
          rw [List.take_of_length_le (Nat.le_refl _)] at hd1
          have HD2 := Lib.hid hd1
          clear HT hd1 H2
          have f4 := HD2.out.bx.fr 4
          have c4 := HD2.out.bx.cr 4 _ rfl
          have k4 := HD2.out.bx.cp 4 _ rfl
          go_upto_region 19 with fail
          have HTa := Lib.hid (HD2.out.setR 4 (.slice none 0 0))
          clear HD2 f4 c4 k4 kk
          revert HTa
          generalize wr.setCell ⟨w.heap.size + 1 + 1, 4, none⟩ (.slice none 0 0) = Y2
          intro HTa
          have HT3 := Lib.hid (UA.start HTa.out 55 7 VerD.ds)
          clear HTa i1
          generalize Y2.heap.size = M3 at HT3
          go_loopw [8] (fun j wx => ∃ (m : Nat) (vam : Option Addr) (vcm : Nat) (vs : List (List Value)), m ≤ sd.models.length ∧ j = .int .i64 m ∧ Hid (UA 35 14 (w.heap.size + 1 + 1) [(.list 3 (sd.roles.map RoleD.ds), .slice var sd.roles.length vcr), (.list 4 (sd.users.map UserD.ds), .slice vau sd.users.length vcu)] 55 7 VerD.ds w wx (stateC sd (.slice a1 sd.users.length c1) (.slice a2 sd.roles.length c2) (.slice a3 sd.models.length c3) (.slice a4 sd.cases.length c4) (.slice a5 sd.timers.length c5) (.slice a6 sd.works.length c6) (.slice a7 sd.audit.length c7) (.slice a8 sd.sess.length c8)) (stC ⟨#[]⟩ (.slice none 0 0) (.slice none 0 0)) (stateC sd (.slice vau sd.users.length vcu) (.slice var sd.roles.length vcr) (.slice vam m vcm) (.slice a4 sd.cases.length c4) (.slice a5 sd.timers.length c5) (.slice a6 sd.works.length c6) (.slice a7 sd.audit.length c7) (.slice a8 sd.sess.length c8)) M3 vam vcm (sd.models.take m) vs)) (fun j _ => sd.models.length - (intOf j).toNat)
          case atStart => exact ⟨0, none, 0, [], Nat.zero_le _, rfl, HT3.out⟩
          case round =>
            clear HT3
            obtain ⟨m, vam, vcm, vs, hml, rfl, HT⟩ := hrel
            have kk := HT.out.bx.cp 4 _ rfl
            by_cases hlt : m < sd.models.length
            · obtain ⟨rfl, -, hbl⟩ := H3.out.at0 (by omega)
              obtain ⟨us0, hr, hcell⟩ := H3.out.row m hlt
              have hso := HMO.out _ (List.getElem_mem hlt)
              have HTL : Hid ((sd.models.take m).length = m) := by show _ = _; rw [List.length_take]; omega
              have HZ := Lib.hid (HT.out.call (Below.refl wr.heap.size wr).drew)
              have HPU := Lib.hid (fun (W' : World) (hb : Below wr.drew.heap.size wr.drew W') (us : List Value) (hu : us.length = 7) (hx : (VerD.ds sd.models[m]).length = 7) (hm : MemL true (From wr.drew.heap.size) W' (VerD.ds sd.models[m]) us) (h1 : ∀ u ∈ us, u.oneCell' = true) h63 hby => HZ.out.push elemVersion 28 hb hu hx hm h1 h63 hby)
              have HTK := Lib.hid (fun W8 vx vy vz h => UA.took (E := 35) (k := 14) (rb := w.heap.size + 1 + 1) (fs := [(.list 3 (sd.roles.map RoleD.ds), .slice var sd.roles.length vcr), (.list 4 (sd.users.map UserD.ds), .slice vau sd.users.length vcu)]) (E2 := 55) (k2 := 7) (f := VerD.ds) (w := w) (W := W8) (x := (stateC sd (.slice a1 sd.users.length c1) (.slice a2 sd.roles.length c2) (.slice (some ⟨b3, o3, none⟩) sd.models.length c3) (.slice a4 sd.cases.length c4) (.slice a5 sd.timers.length c5) (.slice a6 sd.works.length c6) (.slice a7 sd.audit.length c7) (.slice a8 sd.sess.length c8))) (y := (stC ⟨#[]⟩ (.slice none 0 0) (.slice none 0 0))) (z := (stateC sd (.slice vau sd.users.length vcu) (.slice var sd.roles.length vcr) (.slice vam m vcm) (.slice a4 sd.cases.length c4) (.slice a5 sd.timers.length c5) (.slice a6 sd.works.length c6) (.slice a7 sd.audit.length c7) (.slice a8 sd.sess.length c8))) (M := M3) (va := vx) (vc := vy) (vs := vz) (l := sd.models) hlt h)
              obtain ⟨st, hst⟩ : ∃ st, sd.models[m] = st := ⟨_, rfl⟩
              rw [hst] at hr hso HPU
              have HST := Lib.hid hst
              have HML := Lib.hid hlt
              have HVA := Lib.hid HT.out.blk
              obtain ⟨⟨x1, y1, x2, y2, x3, y3, x4, y4, x5, y5⟩, rfl, hMM⟩ := VerD.cells hr
              have HIH := Lib.hid (modelTwin st.m hso x1 y1 x2 y2 x3 y3 x4 y4 x5 y5 wr.drew (hMM.grow HZ.out.bx.below))
              have HP : Hid (∀ W, KpJ wr.drew W (w.heap.size + 1 + 1) vam → W.cell? ⟨w.heap.size, 4, none⟩ = some (.slice (some ⟨b3, o3, none⟩) sd.models.length c3) ∧ W.cell? ⟨b3, o3 + m * 7, none⟩ = some (.string st.m.name) ∧ W.cell? ⟨b3, o3 + m * 7 + 1, none⟩ = some (.slice x1 st.m.attrs.length y1) ∧ W.cell? ⟨b3, o3 + m * 7 + 2, none⟩ = some (.slice x2 st.m.events.length y2) ∧ W.cell? ⟨b3, o3 + m * 7 + 3, none⟩ = some (.slice x3 st.m.stages.length y3) ∧ W.cell? ⟨b3, o3 + m * 7 + 4, none⟩ = some (.slice x4 st.m.stones.length y4) ∧ W.cell? ⟨b3, o3 + m * 7 + 5, none⟩ = some (.slice x5 st.m.apart.length y5) ∧ W.cell? ⟨b3, o3 + m * 7 + 6, none⟩ = some (.int .i64 st.v)) := by
                intro W hW
                have hlt2 := HZ.out.bx.lt
                have hbM := HZ.out.bM
                have hg : ∀ g, vam = some ⟨g, 0, none⟩ → M3 ≤ g := fun g hg => (HZ.out.ac.own.lt hg).1
                have key : ∀ (q : Nat) u, _ → W.cell? ⟨b3, o3 + m * 7 + q, none⟩ = some u := fun q u hq => hW.cell (by omega) (by omega) (fun g hg2 => by have := hg g hg2; omega) (cellBelow2 HZ.out.bx.below (hcell q u hq))
                exact ⟨hW.cell (by omega) (by omega) (fun g hg2 => by have := hg g hg2; omega) (HZ.out.bx.cp 4 _ rfl), key 0 _ rfl, key 1 _ rfl, key 2 _ rfl, key 3 _ rfl, key 4 _ rfl, key 5 _ rfl, key 6 _ rfl⟩
              have i1 : (0 : Int) ≤ (m : Int) := by omega
              have i2 : (m : Int) < (sd.models.length : Int) := by omega
              clear hr hcell hso hbl HO hst H3
              go_upto_region 21 with fail
              clear kk HT
              have c5 := HZ.out.bx.cr 4 _ rfl
              refine wp_region_held_drew (S := (fun W => KpJ wr.drew W (w.heap.size + 1 + 1) vam)) (by kernel_rfl) (KpJ.refl _ _ _) (fun hH => ?_)
              generalize wr.drew = wz at HZ HIH HP c5 HPU hH ⊢
              refine wpAnyH_take (i := 0) (oi := { dst := some 69, op := Op.fieldAddr 35 (Operand.tmp 3) 4, type := 0, pos := "ref.go:362", after := #[], guard := none }) (v := .pointer (some ⟨w.heap.size + 1 + 1, 4, none⟩)) rfl (by kernel_rfl) (by kernel_rfl) (by kernel_rfl) (fun _ _ _ h => h) (Or.inl ⟨by rfl, fun W hS => by go_simp⟩) hH ?_
              simp only [Act.put, List.setIfInBounds_toArray, List.set_cons_zero, List.set_cons_succ]
              refine wpAnyH_take (i := 2) (oi := { dst := some 71, op := Op.fieldAddr 35 (Operand.tmp 1) 4, type := 0, pos := "ref.go:362", after := #[], guard := none }) (v := .pointer (some ⟨w.heap.size, 4, none⟩)) rfl (by kernel_rfl) (by kernel_rfl) (by kernel_rfl) (fun _ _ _ h => h) (Or.inl ⟨by rfl, fun W hS => by go_simp⟩) hH ?_
              simp only [Act.put, List.setIfInBounds_toArray, List.set_cons_zero, List.set_cons_succ]
              refine wpAnyH_take (i := 3) (oi := { dst := some 72, op := Op.load 28 (Operand.tmp 71), type := 28, pos := "ref.go:362", after := #[{ on := 2, ground := Ground.data }], guard := none }) (v := .slice (some ⟨b3, o3, none⟩) sd.models.length c3) rfl (by kernel_rfl) (by kernel_rfl) (by kernel_rfl) (fun _ _ _ h => h) (Or.inl ⟨by rfl, fun W hS => by obtain ⟨p5, e0, e1, e2, e3, e4, e5, e6⟩ := HP.out W hS; go_simp⟩) hH ?_
              simp only [Act.put, List.setIfInBounds_toArray, List.set_cons_zero, List.set_cons_succ]
              refine wpAnyH_take (i := 4) (oi := { dst := some 73, op := Op.move (Operand.tmp 8), type := 3, pos := "ref.go:362", after := #[], guard := none }) (v := .int .i64 m) rfl (by kernel_rfl) (by kernel_rfl) (by kernel_rfl) (fun _ _ _ h => h) (Or.inl ⟨by rfl, fun W hS => by go_simp⟩) hH ?_
              simp only [Act.put, List.setIfInBounds_toArray, List.set_cons_zero, List.set_cons_succ]
              refine wpAnyH_take (i := 5) (oi := { dst := some 74, op := Op.indexAddr 28 (Operand.tmp 72) (Operand.tmp 73), type := 0, pos := "ref.go:362", after := #[{ on := 3, ground := Ground.data }, { on := 4, ground := Ground.data }], guard := none }) (v := .pointer (some ⟨b3, o3 + m * 7, none⟩)) rfl (by kernel_rfl) (by kernel_rfl) (by kernel_rfl) (fun _ _ _ h => h) (Or.inl ⟨by rfl, fun W hS => by go_simp⟩) hH ?_
              simp only [Act.put, List.setIfInBounds_toArray, List.set_cons_zero, List.set_cons_succ]
              refine wpAnyH_take (i := 6) (oi := { dst := some 75, op := Op.fieldAddr 55 (Operand.tmp 74) 0, type := 0, pos := "ref.go:362", after := #[{ on := 5, ground := Ground.data }], guard := none }) (v := .pointer (some ⟨b3, o3 + m * 7, none⟩)) rfl (by kernel_rfl) (by kernel_rfl) (by kernel_rfl) (fun _ _ _ h => h) (Or.inl ⟨by rfl, fun W hS => by go_simp⟩) hH ?_
              simp only [Act.put, List.setIfInBounds_toArray, List.set_cons_zero, List.set_cons_succ]
              refine wpAnyH_take (i := 7) (oi := { dst := some 76, op := Op.load 53 (Operand.tmp 75), type := 53, pos := "ref.go:362", after := #[{ on := 6, ground := Ground.data }], guard := none }) (v := .agg #[.string st.m.name, .slice x1 st.m.attrs.length y1, .slice x2 st.m.events.length y2, .slice x3 st.m.stages.length y3, .slice x4 st.m.stones.length y4, .slice x5 st.m.apart.length y5]) rfl (by kernel_rfl) (by kernel_rfl) (by kernel_rfl) (fun _ _ _ h => h) (Or.inl ⟨by rfl, fun W hS => by obtain ⟨p5, e0, e1, e2, e3, e4, e5, e6⟩ := HP.out W hS; go_simp⟩) hH ?_
              simp only [Act.put, List.setIfInBounds_toArray, List.set_cons_zero, List.set_cons_succ]
              refine wpAnyH_take (i := 9) (oi := { dst := some 78, op := Op.fieldAddr 35 (Operand.tmp 1) 4, type := 0, pos := "ref.go:362", after := #[], guard := none }) (v := .pointer (some ⟨w.heap.size, 4, none⟩)) rfl (by kernel_rfl) (by kernel_rfl) (by kernel_rfl) (fun _ _ _ h => h) (Or.inl ⟨by rfl, fun W hS => by go_simp⟩) hH ?_
              simp only [Act.put, List.setIfInBounds_toArray, List.set_cons_zero, List.set_cons_succ]
              refine wpAnyH_take (i := 10) (oi := { dst := some 79, op := Op.load 28 (Operand.tmp 78), type := 28, pos := "ref.go:362", after := #[{ on := 9, ground := Ground.data }], guard := none }) (v := .slice (some ⟨b3, o3, none⟩) sd.models.length c3) rfl (by kernel_rfl) (by kernel_rfl) (by kernel_rfl) (fun _ _ _ h => h) (Or.inl ⟨by rfl, fun W hS => by obtain ⟨p5, e0, e1, e2, e3, e4, e5, e6⟩ := HP.out W hS; go_simp⟩) hH ?_
              simp only [Act.put, List.setIfInBounds_toArray, List.set_cons_zero, List.set_cons_succ]
              refine wpAnyH_take (i := 11) (oi := { dst := some 80, op := Op.move (Operand.tmp 8), type := 3, pos := "ref.go:362", after := #[], guard := none }) (v := .int .i64 m) rfl (by kernel_rfl) (by kernel_rfl) (by kernel_rfl) (fun _ _ _ h => h) (Or.inl ⟨by rfl, fun W hS => by go_simp⟩) hH ?_
              simp only [Act.put, List.setIfInBounds_toArray, List.set_cons_zero, List.set_cons_succ]
              refine wpAnyH_take (i := 12) (oi := { dst := some 81, op := Op.indexAddr 28 (Operand.tmp 79) (Operand.tmp 80), type := 0, pos := "ref.go:362", after := #[{ on := 10, ground := Ground.data }, { on := 11, ground := Ground.data }], guard := none }) (v := .pointer (some ⟨b3, o3 + m * 7, none⟩)) rfl (by kernel_rfl) (by kernel_rfl) (by kernel_rfl) (fun _ _ _ h => h) (Or.inl ⟨by rfl, fun W hS => by go_simp⟩) hH ?_
              simp only [Act.put, List.setIfInBounds_toArray, List.set_cons_zero, List.set_cons_succ]
              refine wpAnyH_take (i := 13) (oi := { dst := some 82, op := Op.fieldAddr 55 (Operand.tmp 81) 1, type := 0, pos := "ref.go:362", after := #[{ on := 12, ground := Ground.data }], guard := none }) (v := .pointer (some ⟨b3, o3 + m * 7 + 6, none⟩)) rfl (by kernel_rfl) (by kernel_rfl) (by kernel_rfl) (fun _ _ _ h => h) (Or.inl ⟨by rfl, fun W hS => by go_simp⟩) hH ?_
              simp only [Act.put, List.setIfInBounds_toArray, List.set_cons_zero, List.set_cons_succ]
              refine wpAnyH_take (i := 14) (oi := { dst := some 83, op := Op.load 3 (Operand.tmp 82), type := 3, pos := "ref.go:362", after := #[{ on := 13, ground := Ground.data }], guard := none }) (v := .int .i64 st.v) rfl (by kernel_rfl) (by kernel_rfl) (by kernel_rfl) (fun _ _ _ h => h) (Or.inl ⟨by rfl, fun W hS => by obtain ⟨p5, e0, e1, e2, e3, e4, e5, e6⟩ := HP.out W hS; go_simp⟩) hH ?_
              simp only [Act.put, List.setIfInBounds_toArray, List.set_cons_zero, List.set_cons_succ]
              refine wpAnyH_ready (rs := [1, 8]) (by kernel_rfl) (by simp) ?_
              refine AllReadyH.cons (o := { dst := some 70, op := Op.load 28 (Operand.tmp 69), type := 28, pos := "ref.go:362", after := #[{ on := 0, ground := Ground.data }], guard := none }) rfl (fun K hK => ?_) (AllReadyH.cons (o := { dst := some 77, op := Op.call { callee := Callee.value (Operand.func 35), args := #[Operand.tmp 76], argTypes := #[53] }, type := 53, pos := "ref.go:362", after := #[{ on := 7, ground := Ground.data }], guard := none }) rfl (fun K hK => ?_) AllReadyH.nil)
              · go_simp
                refine hK.out _ _ hH (fun hH => ?_)
                clear hK K
                try simp only [Act.put, List.setIfInBounds_toArray, List.set_cons_zero, List.set_cons_succ]
                refine wpAnyH_ready (rs := [8]) (by kernel_rfl) (by simp) ?_
                refine AllReadyH.cons (o := { dst := some 77, op := Op.call { callee := Callee.value (Operand.func 35), args := #[Operand.tmp 76], argTypes := #[53] }, type := 53, pos := "ref.go:362", after := #[{ on := 7, ground := Ground.data }], guard := none }) rfl (fun K hK => ?_) AllReadyH.nil
                go_simp
                go_at_call 35
                refine HIH.out.mono ?_
                rintro e W' ⟨⟨p1, q1, p2, q2, p3, q3, p4, q4, p5, q5⟩, rfl, hm', hb'⟩
                obtain ⟨g', vc', W8, hap, hA8, hg8⟩ := HPU.out _ hb' [.string st.m.name, .slice p1 st.m.attrs.length q1, .slice p2 st.m.events.length q2, .slice p3 st.m.stages.length q3, .slice p4 st.m.stones.length q4, .slice p5 st.m.apart.length q5, .int .i64 st.v] rfl rfl (.cons (.atom _) (.cons hm'.attrs (.cons hm'.events (.cons hm'.stages (.cons hm'.stones (.cons hm'.apart (.cons (.atom _) (MemL.nil _ _ _)))))))) (fun u hu => by simp only [List.mem_cons, List.not_mem_nil, or_false] at hu; rcases hu with rfl | rfl | rfl | rfl | rfl | rfl | rfl <;> rfl) (by rw [HTL.out]; have := HML.out; unfold maxLen; omega) (by rw [HTL.out]; have := HML.out; omega)
                rw [HTL.out] at hap
                rw [← HST.out] at hA8
                have HN8 := Lib.hid (HTK.out _ _ _ _ hA8)
                have HAP := Lib.hid hap
                have HG8 := Lib.hid hg8
                have c5' := (HZ.out.call hb').bx.cr 4 _ rfl
                have c8 := HN8.out.bx.cr 4 _ rfl
                have f8 := HN8.out.bx.fr 4
                have HB' := Lib.hid hb'
                clear hm' hb' hap hA8 hg8
                go_wp2_with fail
                refine hK.out _ _ (KpJ.call hH HB'.out) (fun hH => ?_)
                clear hK K
                try simp only [Act.put, List.setIfInBounds_toArray, List.set_cons_zero, List.set_cons_succ]
                refine wpAnyH_take (i := 15) (oi := { dst := some 84, op := Op.build 55 #[(0, Operand.tmp 77), (1, Operand.tmp 83)], type := 55, pos := "ref.go:362", after := #[{ on := 8, ground := Ground.data }, { on := 14, ground := Ground.data }], guard := none }) (v := .agg #[.string st.m.name, .slice p1 st.m.attrs.length q1, .slice p2 st.m.events.length q2, .slice p3 st.m.stages.length q3, .slice p4 st.m.stones.length q4, .slice p5 st.m.apart.length q5, .int .i64 st.v]) rfl (by kernel_rfl) (by kernel_rfl) (by kernel_rfl) (fun _ _ _ h => h) (Or.inl ⟨by rfl, fun W hS => by go_simp⟩) hH ?_
                simp only [Act.put, List.setIfInBounds_toArray, List.set_cons_zero, List.set_cons_succ]
                refine wpAnyH_ready (rs := [16]) (by kernel_rfl) (by simp) ?_
                refine AllReadyH.cons (o := { dst := some 85, op := Op.buildSlice 28 1 #[(0, Operand.tmp 84)], type := 28, pos := "ref.go:362", after := #[{ on := 15, ground := Ground.data }], guard := none }) rfl (fun K hK => ?_) AllReadyH.nil
                go_simp
                refine hK.out _ _ (KpJ.call hH ((Below.refl _ _).alloc (Nat.le_refl _) _)) (fun hH => ?_)
                clear hK K
                try simp only [Act.put, List.setIfInBounds_toArray, List.set_cons_zero, List.set_cons_succ]
                have c5a := ((HZ.out.call HB'.out).call ((Below.refl _ _).alloc (Nat.le_refl _) (.cells #[.string st.m.name, .slice p1 st.m.attrs.length q1, .slice p2 st.m.events.length q2, .slice p3 st.m.stages.length q3, .slice p4 st.m.stones.length q4, .slice p5 st.m.apart.length q5, .int .i64 st.v] 55))).bx.cr 4 _ rfl
                refine wpAnyH_ready (rs := [17]) (by kernel_rfl) (by simp) ?_
                refine AllReadyH.cons (o := { dst := some 86, op := Op.call { callee := Callee.builtin Builtin.append, args := #[Operand.tmp 70, Operand.tmp 85], argTypes := #[28, 28] }, type := 28, pos := "ref.go:362", after := #[{ on := 1, ground := Ground.data }, { on := 16, ground := Ground.data }, { on := 8, ground := Ground.chain }], guard := none }) rfl (fun K hK => ?_) AllReadyH.nil
                refine step_append_run (by rfl) (.tmp 70) (.tmp 85) 28 (by rfl) (by rfl) (by rfl) HAP.out ?_
                refine hK.out _ _ (KpJ.grown hH HG8.out HVA.out) (fun hH => ?_)
                clear hK K
                try simp only [Act.put, List.setIfInBounds_toArray, List.set_cons_zero, List.set_cons_succ]
                refine wpAnyH_take (i := 18) (oi := { dst := some 87, op := Op.fieldAddr 35 (Operand.tmp 3) 4, type := 0, pos := "ref.go:362", after := #[{ on := 0, ground := Ground.phase }, { on := 1, ground := Ground.phase }, { on := 2, ground := Ground.phase }, { on := 3, ground := Ground.phase }, { on := 4, ground := Ground.phase }, { on := 5, ground := Ground.phase }, { on := 6, ground := Ground.phase }, { on := 7, ground := Ground.phase }, { on := 8, ground := Ground.phase }, { on := 9, ground := Ground.phase }, { on := 10, ground := Ground.phase }, { on := 11, ground := Ground.phase }, { on := 12, ground := Ground.phase }, { on := 13, ground := Ground.phase }, { on := 14, ground := Ground.phase }, { on := 15, ground := Ground.phase }, { on := 16, ground := Ground.phase }, { on := 17, ground := Ground.phase }], guard := none }) (v := .pointer (some ⟨w.heap.size + 1 + 1, 4, none⟩)) rfl (by kernel_rfl) (by kernel_rfl) (by kernel_rfl) (fun _ _ _ h => h) (Or.inl ⟨by rfl, fun W hS => by go_simp⟩) hH ?_
                simp only [Act.put, List.setIfInBounds_toArray, List.set_cons_zero, List.set_cons_succ]
                refine wpAnyH_ready (rs := [19]) (by kernel_rfl) (by simp) ?_
                refine AllReadyH.cons (o := { dst := none, op := Op.store 28 (Operand.tmp 87) (Operand.tmp 86), type := 0, pos := "ref.go:362", after := #[{ on := 18, ground := Ground.data }, { on := 17, ground := Ground.data }, { on := 17, ground := Ground.chain }, { on := 0, ground := Ground.phase }, { on := 1, ground := Ground.phase }, { on := 2, ground := Ground.phase }, { on := 3, ground := Ground.phase }, { on := 4, ground := Ground.phase }, { on := 5, ground := Ground.phase }, { on := 6, ground := Ground.phase }, { on := 7, ground := Ground.phase }, { on := 8, ground := Ground.phase }, { on := 9, ground := Ground.phase }, { on := 10, ground := Ground.phase }, { on := 11, ground := Ground.phase }, { on := 12, ground := Ground.phase }, { on := 13, ground := Ground.phase }, { on := 14, ground := Ground.phase }, { on := 15, ground := Ground.phase }, { on := 16, ground := Ground.phase }, { on := 17, ground := Ground.phase }], guard := none }) rfl (fun K hK => ?_) AllReadyH.nil
                go_simp
                refine hK.out _ _ (KpJ.set hH _ _) (fun hH => ?_)
                clear hK K
                try simp only [Act.put, List.setIfInBounds_toArray, List.set_cons_zero, List.set_cons_succ]
                refine wpAnyH_done (by kernel_rfl) ?_ _
                have wr1 : IntKind.i64.wrap ((m : Int) + 1) = (m : Int) + 1 := wrap_i64 (by omega) (by have := HML.out; omega)
                go_wp2_with fail
                have H9 := Lib.hid (HN8.out.setR 4 (.slice (some ⟨g', 0, none⟩) (m + 1) vc'))
                go_roundw
                case rel => exact ⟨m + 1, _, _, _, by omega, by go_num, H9⟩
                case measure => simp [intOf]; omega
              · go_simp
                go_at_call 35
                refine HIH.out.mono ?_
                rintro e W' ⟨⟨p1, q1, p2, q2, p3, q3, p4, q4, p5, q5⟩, rfl, hm', hb'⟩
                obtain ⟨g', vc', W8, hap, hA8, hg8⟩ := HPU.out _ hb' [.string st.m.name, .slice p1 st.m.attrs.length q1, .slice p2 st.m.events.length q2, .slice p3 st.m.stages.length q3, .slice p4 st.m.stones.length q4, .slice p5 st.m.apart.length q5, .int .i64 st.v] rfl rfl (.cons (.atom _) (.cons hm'.attrs (.cons hm'.events (.cons hm'.stages (.cons hm'.stones (.cons hm'.apart (.cons (.atom _) (MemL.nil _ _ _)))))))) (fun u hu => by simp only [List.mem_cons, List.not_mem_nil, or_false] at hu; rcases hu with rfl | rfl | rfl | rfl | rfl | rfl | rfl <;> rfl) (by rw [HTL.out]; have := HML.out; unfold maxLen; omega) (by rw [HTL.out]; have := HML.out; omega)
                rw [HTL.out] at hap
                rw [← HST.out] at hA8
                have HN8 := Lib.hid (HTK.out _ _ _ _ hA8)
                have HAP := Lib.hid hap
                have HG8 := Lib.hid hg8
                have c5' := (HZ.out.call hb').bx.cr 4 _ rfl
                have c8 := HN8.out.bx.cr 4 _ rfl
                have f8 := HN8.out.bx.fr 4
                have HB' := Lib.hid hb'
                clear hm' hb' hap hA8 hg8
                go_wp2_with fail
                refine hK.out _ _ (KpJ.call hH HB'.out) (fun hH => ?_)
                clear hK K
                try simp only [Act.put, List.setIfInBounds_toArray, List.set_cons_zero, List.set_cons_succ]
                refine wpAnyH_take (i := 15) (oi := { dst := some 84, op := Op.build 55 #[(0, Operand.tmp 77), (1, Operand.tmp 83)], type := 55, pos := "ref.go:362", after := #[{ on := 8, ground := Ground.data }, { on := 14, ground := Ground.data }], guard := none }) (v := .agg #[.string st.m.name, .slice p1 st.m.attrs.length q1, .slice p2 st.m.events.length q2, .slice p3 st.m.stages.length q3, .slice p4 st.m.stones.length q4, .slice p5 st.m.apart.length q5, .int .i64 st.v]) rfl (by kernel_rfl) (by kernel_rfl) (by kernel_rfl) (fun _ _ _ h => h) (Or.inl ⟨by rfl, fun W hS => by go_simp⟩) hH ?_
                simp only [Act.put, List.setIfInBounds_toArray, List.set_cons_zero, List.set_cons_succ]
                refine wpAnyH_ready (rs := [1, 16]) (by kernel_rfl) (by simp) ?_
                refine AllReadyH.cons (o := { dst := some 70, op := Op.load 28 (Operand.tmp 69), type := 28, pos := "ref.go:362", after := #[{ on := 0, ground := Ground.data }], guard := none }) rfl (fun K hK => ?_) (AllReadyH.cons (o := { dst := some 85, op := Op.buildSlice 28 1 #[(0, Operand.tmp 84)], type := 28, pos := "ref.go:362", after := #[{ on := 15, ground := Ground.data }], guard := none }) rfl (fun K hK => ?_) AllReadyH.nil)
                · go_simp
                  refine hK.out _ _ hH (fun hH => ?_)
                  clear hK K
                  try simp only [Act.put, List.setIfInBounds_toArray, List.set_cons_zero, List.set_cons_succ]
                  refine wpAnyH_ready (rs := [16]) (by kernel_rfl) (by simp) ?_
                  refine AllReadyH.cons (o := { dst := some 85, op := Op.buildSlice 28 1 #[(0, Operand.tmp 84)], type := 28, pos := "ref.go:362", after := #[{ on := 15, ground := Ground.data }], guard := none }) rfl (fun K hK => ?_) AllReadyH.nil
                  go_simp
                  refine hK.out _ _ (KpJ.call hH ((Below.refl _ _).alloc (Nat.le_refl _) _)) (fun hH => ?_)
                  clear hK K
                  try simp only [Act.put, List.setIfInBounds_toArray, List.set_cons_zero, List.set_cons_succ]
                  have c5a := ((HZ.out.call HB'.out).call ((Below.refl _ _).alloc (Nat.le_refl _) (.cells #[.string st.m.name, .slice p1 st.m.attrs.length q1, .slice p2 st.m.events.length q2, .slice p3 st.m.stages.length q3, .slice p4 st.m.stones.length q4, .slice p5 st.m.apart.length q5, .int .i64 st.v] 55))).bx.cr 4 _ rfl
                  refine wpAnyH_ready (rs := [17]) (by kernel_rfl) (by simp) ?_
                  refine AllReadyH.cons (o := { dst := some 86, op := Op.call { callee := Callee.builtin Builtin.append, args := #[Operand.tmp 70, Operand.tmp 85], argTypes := #[28, 28] }, type := 28, pos := "ref.go:362", after := #[{ on := 1, ground := Ground.data }, { on := 16, ground := Ground.data }, { on := 8, ground := Ground.chain }], guard := none }) rfl (fun K hK => ?_) AllReadyH.nil
                  refine step_append_run (by rfl) (.tmp 70) (.tmp 85) 28 (by rfl) (by rfl) (by rfl) HAP.out ?_
                  refine hK.out _ _ (KpJ.grown hH HG8.out HVA.out) (fun hH => ?_)
                  clear hK K
                  try simp only [Act.put, List.setIfInBounds_toArray, List.set_cons_zero, List.set_cons_succ]
                  refine wpAnyH_take (i := 18) (oi := { dst := some 87, op := Op.fieldAddr 35 (Operand.tmp 3) 4, type := 0, pos := "ref.go:362", after := #[{ on := 0, ground := Ground.phase }, { on := 1, ground := Ground.phase }, { on := 2, ground := Ground.phase }, { on := 3, ground := Ground.phase }, { on := 4, ground := Ground.phase }, { on := 5, ground := Ground.phase }, { on := 6, ground := Ground.phase }, { on := 7, ground := Ground.phase }, { on := 8, ground := Ground.phase }, { on := 9, ground := Ground.phase }, { on := 10, ground := Ground.phase }, { on := 11, ground := Ground.phase }, { on := 12, ground := Ground.phase }, { on := 13, ground := Ground.phase }, { on := 14, ground := Ground.phase }, { on := 15, ground := Ground.phase }, { on := 16, ground := Ground.phase }, { on := 17, ground := Ground.phase }], guard := none }) (v := .pointer (some ⟨w.heap.size + 1 + 1, 4, none⟩)) rfl (by kernel_rfl) (by kernel_rfl) (by kernel_rfl) (fun _ _ _ h => h) (Or.inl ⟨by rfl, fun W hS => by go_simp⟩) hH ?_
                  simp only [Act.put, List.setIfInBounds_toArray, List.set_cons_zero, List.set_cons_succ]
                  refine wpAnyH_ready (rs := [19]) (by kernel_rfl) (by simp) ?_
                  refine AllReadyH.cons (o := { dst := none, op := Op.store 28 (Operand.tmp 87) (Operand.tmp 86), type := 0, pos := "ref.go:362", after := #[{ on := 18, ground := Ground.data }, { on := 17, ground := Ground.data }, { on := 17, ground := Ground.chain }, { on := 0, ground := Ground.phase }, { on := 1, ground := Ground.phase }, { on := 2, ground := Ground.phase }, { on := 3, ground := Ground.phase }, { on := 4, ground := Ground.phase }, { on := 5, ground := Ground.phase }, { on := 6, ground := Ground.phase }, { on := 7, ground := Ground.phase }, { on := 8, ground := Ground.phase }, { on := 9, ground := Ground.phase }, { on := 10, ground := Ground.phase }, { on := 11, ground := Ground.phase }, { on := 12, ground := Ground.phase }, { on := 13, ground := Ground.phase }, { on := 14, ground := Ground.phase }, { on := 15, ground := Ground.phase }, { on := 16, ground := Ground.phase }, { on := 17, ground := Ground.phase }], guard := none }) rfl (fun K hK => ?_) AllReadyH.nil
                  go_simp
                  refine hK.out _ _ (KpJ.set hH _ _) (fun hH => ?_)
                  clear hK K
                  try simp only [Act.put, List.setIfInBounds_toArray, List.set_cons_zero, List.set_cons_succ]
                  refine wpAnyH_done (by kernel_rfl) ?_ _
                  have wr1 : IntKind.i64.wrap ((m : Int) + 1) = (m : Int) + 1 := wrap_i64 (by omega) (by have := HML.out; omega)
                  go_wp2_with fail
                  have H9 := Lib.hid (HN8.out.setR 4 (.slice (some ⟨g', 0, none⟩) (m + 1) vc'))
                  go_roundw
                  case rel => exact ⟨m + 1, _, _, _, by omega, by go_num, H9⟩
                  case measure => simp [intOf]; omega
                · go_simp
                  refine hK.out _ _ (KpJ.call hH ((Below.refl _ _).alloc (Nat.le_refl _) _)) (fun hH => ?_)
                  clear hK K
                  try simp only [Act.put, List.setIfInBounds_toArray, List.set_cons_zero, List.set_cons_succ]
                  have c5a := ((HZ.out.call HB'.out).call ((Below.refl _ _).alloc (Nat.le_refl _) (.cells #[.string st.m.name, .slice p1 st.m.attrs.length q1, .slice p2 st.m.events.length q2, .slice p3 st.m.stages.length q3, .slice p4 st.m.stones.length q4, .slice p5 st.m.apart.length q5, .int .i64 st.v] 55))).bx.cr 4 _ rfl
                  refine wpAnyH_ready (rs := [1]) (by kernel_rfl) (by simp) ?_
                  refine AllReadyH.cons (o := { dst := some 70, op := Op.load 28 (Operand.tmp 69), type := 28, pos := "ref.go:362", after := #[{ on := 0, ground := Ground.data }], guard := none }) rfl (fun K hK => ?_) AllReadyH.nil
                  go_simp
                  refine hK.out _ _ hH (fun hH => ?_)
                  clear hK K
                  try simp only [Act.put, List.setIfInBounds_toArray, List.set_cons_zero, List.set_cons_succ]
                  refine wpAnyH_ready (rs := [17]) (by kernel_rfl) (by simp) ?_
                  refine AllReadyH.cons (o := { dst := some 86, op := Op.call { callee := Callee.builtin Builtin.append, args := #[Operand.tmp 70, Operand.tmp 85], argTypes := #[28, 28] }, type := 28, pos := "ref.go:362", after := #[{ on := 1, ground := Ground.data }, { on := 16, ground := Ground.data }, { on := 8, ground := Ground.chain }], guard := none }) rfl (fun K hK => ?_) AllReadyH.nil
                  refine step_append_run (by rfl) (.tmp 70) (.tmp 85) 28 (by rfl) (by rfl) (by rfl) HAP.out ?_
                  refine hK.out _ _ (KpJ.grown hH HG8.out HVA.out) (fun hH => ?_)
                  clear hK K
                  try simp only [Act.put, List.setIfInBounds_toArray, List.set_cons_zero, List.set_cons_succ]
                  refine wpAnyH_take (i := 18) (oi := { dst := some 87, op := Op.fieldAddr 35 (Operand.tmp 3) 4, type := 0, pos := "ref.go:362", after := #[{ on := 0, ground := Ground.phase }, { on := 1, ground := Ground.phase }, { on := 2, ground := Ground.phase }, { on := 3, ground := Ground.phase }, { on := 4, ground := Ground.phase }, { on := 5, ground := Ground.phase }, { on := 6, ground := Ground.phase }, { on := 7, ground := Ground.phase }, { on := 8, ground := Ground.phase }, { on := 9, ground := Ground.phase }, { on := 10, ground := Ground.phase }, { on := 11, ground := Ground.phase }, { on := 12, ground := Ground.phase }, { on := 13, ground := Ground.phase }, { on := 14, ground := Ground.phase }, { on := 15, ground := Ground.phase }, { on := 16, ground := Ground.phase }, { on := 17, ground := Ground.phase }], guard := none }) (v := .pointer (some ⟨w.heap.size + 1 + 1, 4, none⟩)) rfl (by kernel_rfl) (by kernel_rfl) (by kernel_rfl) (fun _ _ _ h => h) (Or.inl ⟨by rfl, fun W hS => by go_simp⟩) hH ?_
                  simp only [Act.put, List.setIfInBounds_toArray, List.set_cons_zero, List.set_cons_succ]
                  refine wpAnyH_ready (rs := [19]) (by kernel_rfl) (by simp) ?_
                  refine AllReadyH.cons (o := { dst := none, op := Op.store 28 (Operand.tmp 87) (Operand.tmp 86), type := 0, pos := "ref.go:362", after := #[{ on := 18, ground := Ground.data }, { on := 17, ground := Ground.data }, { on := 17, ground := Ground.chain }, { on := 0, ground := Ground.phase }, { on := 1, ground := Ground.phase }, { on := 2, ground := Ground.phase }, { on := 3, ground := Ground.phase }, { on := 4, ground := Ground.phase }, { on := 5, ground := Ground.phase }, { on := 6, ground := Ground.phase }, { on := 7, ground := Ground.phase }, { on := 8, ground := Ground.phase }, { on := 9, ground := Ground.phase }, { on := 10, ground := Ground.phase }, { on := 11, ground := Ground.phase }, { on := 12, ground := Ground.phase }, { on := 13, ground := Ground.phase }, { on := 14, ground := Ground.phase }, { on := 15, ground := Ground.phase }, { on := 16, ground := Ground.phase }, { on := 17, ground := Ground.phase }], guard := none }) rfl (fun K hK => ?_) AllReadyH.nil
                  go_simp
                  refine hK.out _ _ (KpJ.set hH _ _) (fun hH => ?_)
                  clear hK K
                  try simp only [Act.put, List.setIfInBounds_toArray, List.set_cons_zero, List.set_cons_succ]
                  refine wpAnyH_done (by kernel_rfl) ?_ _
                  have wr1 : IntKind.i64.wrap ((m : Int) + 1) = (m : Int) + 1 := wrap_i64 (by omega) (by have := HML.out; omega)
                  go_wp2_with fail
                  have H9 := Lib.hid (HN8.out.setR 4 (.slice (some ⟨g', 0, none⟩) (m + 1) vc'))
                  go_roundw
                  case rel => exact ⟨m + 1, _, _, _, by omega, by go_num, H9⟩
                  case measure => simp [intOf]; omega
            · have hme : m = sd.models.length := by omega
              subst hme
              have i1 : ¬ (sd.models.length : Int) < (sd.models.length : Int) := by omega
              have hd1 := HT.out.done (by omega)
              rw [List.take_of_length_le (Nat.le_refl _)] at hd1
              have HD3 := Lib.hid hd1
              clear HT hd1 H3
              have f5 := HD3.out.bx.fr 5
              have c5 := HD3.out.bx.cr 5 _ rfl
              have k5 := HD3.out.bx.cp 5 _ rfl
              go_upto_region 24 with fail
              have HTa := Lib.hid (HD3.out.setR 5 (.slice none 0 0))
              clear HD3 f5 c5 k5 kk
              revert HTa
              generalize wr.setCell ⟨w.heap.size + 1 + 1, 5, none⟩ (.slice none 0 0) = Y3
              intro HTa
              have HT4 := Lib.hid (UA.start HTa.out 64 7 CaseD.ds)
              clear HTa i1
              generalize Y3.heap.size = M4 at HT4
              go_loopw [9] (fun j wx => ∃ (m : Nat) (vac : Option Addr) (vcc : Nat) (vs : List (List Value)), m ≤ sd.cases.length ∧ j = .int .i64 m ∧ Hid (UA 35 14 (w.heap.size + 1 + 1) [(.list 7 (sd.models.map VerD.ds), .slice vam sd.models.length vcm), (.list 3 (sd.roles.map RoleD.ds), .slice var sd.roles.length vcr), (.list 4 (sd.users.map UserD.ds), .slice vau sd.users.length vcu)] 64 7 CaseD.ds w wx (stateC sd (.slice a1 sd.users.length c1) (.slice a2 sd.roles.length c2) (.slice a3 sd.models.length c3) (.slice a4 sd.cases.length c4) (.slice a5 sd.timers.length c5) (.slice a6 sd.works.length c6) (.slice a7 sd.audit.length c7) (.slice a8 sd.sess.length c8)) (stC ⟨#[]⟩ (.slice none 0 0) (.slice none 0 0)) (stateC sd (.slice vau sd.users.length vcu) (.slice var sd.roles.length vcr) (.slice vam sd.models.length vcm) (.slice vac m vcc) (.slice a5 sd.timers.length c5) (.slice a6 sd.works.length c6) (.slice a7 sd.audit.length c7) (.slice a8 sd.sess.length c8)) M4 vac vcc (sd.cases.take m) vs)) (fun j _ => sd.cases.length - (intOf j).toNat)
              case atStart => exact ⟨0, none, 0, [], Nat.zero_le _, rfl, HT4.out⟩
              case round =>
                clear HT4
                obtain ⟨m, vac, vcc, vs, hml, rfl, HT⟩ := hrel
                have kk := HT.out.bx.cp 5 _ rfl
                by_cases hlt : m < sd.cases.length
                · obtain ⟨rfl, -, hbl⟩ := H4.out.at0 (by omega)
                  obtain ⟨us0, hr, hcell⟩ := H4.out.row m hlt
                  have hso := HCO.out _ (List.getElem_mem hlt)
                  have HTL : Hid ((sd.cases.take m).length = m) := by show _ = _; rw [List.length_take]; omega
                  have HZ := Lib.hid (HT.out.call (Below.refl wr.heap.size wr).drew)
                  have HPU := Lib.hid (fun (W' : World) (hb : Below wr.drew.heap.size wr.drew W') (us : List Value) (hu : us.length = 7) (hx : (CaseD.ds sd.cases[m]).length = 7) (hm : MemL true (From wr.drew.heap.size) W' (CaseD.ds sd.cases[m]) us) (h1 : ∀ u ∈ us, u.oneCell' = true) h63 hby => HZ.out.push elemCase 29 hb hu hx hm h1 h63 hby)
                  have HTK := Lib.hid (fun W8 vx vy vz h => UA.took (E := 35) (k := 14) (rb := w.heap.size + 1 + 1) (fs := [(.list 7 (sd.models.map VerD.ds), .slice vam sd.models.length vcm), (.list 3 (sd.roles.map RoleD.ds), .slice var sd.roles.length vcr), (.list 4 (sd.users.map UserD.ds), .slice vau sd.users.length vcu)]) (E2 := 64) (k2 := 7) (f := CaseD.ds) (w := w) (W := W8) (x := (stateC sd (.slice a1 sd.users.length c1) (.slice a2 sd.roles.length c2) (.slice a3 sd.models.length c3) (.slice (some ⟨b4, o4, none⟩) sd.cases.length c4) (.slice a5 sd.timers.length c5) (.slice a6 sd.works.length c6) (.slice a7 sd.audit.length c7) (.slice a8 sd.sess.length c8))) (y := (stC ⟨#[]⟩ (.slice none 0 0) (.slice none 0 0))) (z := (stateC sd (.slice vau sd.users.length vcu) (.slice var sd.roles.length vcr) (.slice vam sd.models.length vcm) (.slice vac m vcc) (.slice a5 sd.timers.length c5) (.slice a6 sd.works.length c6) (.slice a7 sd.audit.length c7) (.slice a8 sd.sess.length c8))) (M := M4) (va := vx) (vc := vy) (vs := vz) (l := sd.cases) hlt h)
                  obtain ⟨st, hst⟩ : ∃ st, sd.cases[m] = st := ⟨_, rfl⟩
                  rw [hst] at hr hso HPU
                  have HST := Lib.hid hst
                  have HML := Lib.hid hlt
                  have HVA := Lib.hid HT.out.blk
                  obtain ⟨x1, y1, x2, y2, x3, y3, x4, y4, rfl, hMM⟩ := CaseD.cells hr
                  have HIH := Lib.hid (caseTwin st hso _ wr.drew (hr.grow HZ.out.bx.below))
                  have HP : Hid (∀ W, KpJ wr.drew W (w.heap.size + 1 + 1) vac → W.cell? ⟨w.heap.size, 5, none⟩ = some (.slice (some ⟨b4, o4, none⟩) sd.cases.length c4) ∧ W.cell? ⟨b4, o4 + m * 7, none⟩ = some (.int .i64 st.id) ∧ W.cell? ⟨b4, o4 + m * 7 + 1, none⟩ = some (.string st.model) ∧ W.cell? ⟨b4, o4 + m * 7 + 2, none⟩ = some (.int .i64 st.version) ∧ W.cell? ⟨b4, o4 + m * 7 + 3, none⟩ = some (.slice x1 st.values.length y1) ∧ W.cell? ⟨b4, o4 + m * 7 + 4, none⟩ = some (.slice x2 st.opn.length y2) ∧ W.cell? ⟨b4, o4 + m * 7 + 5, none⟩ = some (.slice x3 st.done.length y3) ∧ W.cell? ⟨b4, o4 + m * 7 + 6, none⟩ = some (.slice x4 st.acted.length y4)) := by
                    intro W hW
                    have hlt2 := HZ.out.bx.lt
                    have hbM := HZ.out.bM
                    have hg : ∀ g, vac = some ⟨g, 0, none⟩ → M4 ≤ g := fun g hg => (HZ.out.ac.own.lt hg).1
                    have key : ∀ (q : Nat) u, _ → W.cell? ⟨b4, o4 + m * 7 + q, none⟩ = some u := fun q u hq => hW.cell (by omega) (by omega) (fun g hg2 => by have := hg g hg2; omega) (cellBelow2 HZ.out.bx.below (hcell q u hq))
                    exact ⟨hW.cell (by omega) (by omega) (fun g hg2 => by have := hg g hg2; omega) (HZ.out.bx.cp 5 _ rfl), key 0 _ rfl, key 1 _ rfl, key 2 _ rfl, key 3 _ rfl, key 4 _ rfl, key 5 _ rfl, key 6 _ rfl⟩
                  have i1 : (0 : Int) ≤ (m : Int) := by omega
                  have i2 : (m : Int) < (sd.cases.length : Int) := by omega
                  clear hr hcell hso hbl HO hst H4
                  go_upto_region 26 with fail
                  clear kk HT
                  have c5 := HZ.out.bx.cr 5 _ rfl
                  refine wp_region_held_drew (S := (fun W => KpJ wr.drew W (w.heap.size + 1 + 1) vac)) (by kernel_rfl) (KpJ.refl _ _ _) (fun hH => ?_)
                  generalize wr.drew = wz at HZ HIH HP c5 HPU hH ⊢
                  refine wpAnyH_take (i := 0) (oi := { dst := some 96, op := Op.fieldAddr 35 (Operand.tmp 3) 5, type := 0, pos := "ref.go:366", after := #[], guard := none }) (v := .pointer (some ⟨w.heap.size + 1 + 1, 5, none⟩)) rfl (by kernel_rfl) (by kernel_rfl) (by kernel_rfl) (fun _ _ _ h => h) (Or.inl ⟨by rfl, fun W hS => by go_simp⟩) hH ?_
                  simp only [Act.put, List.setIfInBounds_toArray, List.set_cons_zero, List.set_cons_succ]
                  refine wpAnyH_take (i := 2) (oi := { dst := some 98, op := Op.fieldAddr 35 (Operand.tmp 1) 5, type := 0, pos := "ref.go:366", after := #[], guard := none }) (v := .pointer (some ⟨w.heap.size, 5, none⟩)) rfl (by kernel_rfl) (by kernel_rfl) (by kernel_rfl) (fun _ _ _ h => h) (Or.inl ⟨by rfl, fun W hS => by go_simp⟩) hH ?_
                  simp only [Act.put, List.setIfInBounds_toArray, List.set_cons_zero, List.set_cons_succ]
                  refine wpAnyH_take (i := 3) (oi := { dst := some 99, op := Op.load 29 (Operand.tmp 98), type := 29, pos := "ref.go:366", after := #[{ on := 2, ground := Ground.data }], guard := none }) (v := .slice (some ⟨b4, o4, none⟩) sd.cases.length c4) rfl (by kernel_rfl) (by kernel_rfl) (by kernel_rfl) (fun _ _ _ h => h) (Or.inl ⟨by rfl, fun W hS => by obtain ⟨p5, e0, e1, e2, e3, e4, e5, e6⟩ := HP.out W hS; go_simp⟩) hH ?_
                  simp only [Act.put, List.setIfInBounds_toArray, List.set_cons_zero, List.set_cons_succ]
                  refine wpAnyH_take (i := 4) (oi := { dst := some 100, op := Op.move (Operand.tmp 9), type := 3, pos := "ref.go:366", after := #[], guard := none }) (v := .int .i64 m) rfl (by kernel_rfl) (by kernel_rfl) (by kernel_rfl) (fun _ _ _ h => h) (Or.inl ⟨by rfl, fun W hS => by go_simp⟩) hH ?_
                  simp only [Act.put, List.setIfInBounds_toArray, List.set_cons_zero, List.set_cons_succ]
                  refine wpAnyH_take (i := 5) (oi := { dst := some 101, op := Op.indexAddr 29 (Operand.tmp 99) (Operand.tmp 100), type := 0, pos := "ref.go:366", after := #[{ on := 3, ground := Ground.data }, { on := 4, ground := Ground.data }], guard := none }) (v := .pointer (some ⟨b4, o4 + m * 7, none⟩)) rfl (by kernel_rfl) (by kernel_rfl) (by kernel_rfl) (fun _ _ _ h => h) (Or.inl ⟨by rfl, fun W hS => by go_simp⟩) hH ?_
                  simp only [Act.put, List.setIfInBounds_toArray, List.set_cons_zero, List.set_cons_succ]
                  refine wpAnyH_take (i := 6) (oi := { dst := some 102, op := Op.load 64 (Operand.tmp 101), type := 64, pos := "ref.go:366", after := #[{ on := 5, ground := Ground.data }], guard := none }) (v := .agg #[.int .i64 st.id, .string st.model, .int .i64 st.version, .slice x1 st.values.length y1, .slice x2 st.opn.length y2, .slice x3 st.done.length y3, .slice x4 st.acted.length y4]) rfl (by kernel_rfl) (by kernel_rfl) (by kernel_rfl) (fun _ _ _ h => h) (Or.inl ⟨by rfl, fun W hS => by obtain ⟨p5, e0, e1, e2, e3, e4, e5, e6⟩ := HP.out W hS; go_simp⟩) hH ?_
                  simp only [Act.put, List.setIfInBounds_toArray, List.set_cons_zero, List.set_cons_succ]
                  refine wpAnyH_ready (rs := [1, 7]) (by kernel_rfl) (by simp) ?_
                  refine AllReadyH.cons (o := { dst := some 97, op := Op.load 29 (Operand.tmp 96), type := 29, pos := "ref.go:366", after := #[{ on := 0, ground := Ground.data }], guard := none }) rfl (fun K hK => ?_) (AllReadyH.cons (o := { dst := some 103, op := Op.call { callee := Callee.value (Operand.func 36), args := #[Operand.tmp 102], argTypes := #[64] }, type := 64, pos := "ref.go:366", after := #[{ on := 6, ground := Ground.data }], guard := none }) rfl (fun K hK => ?_) AllReadyH.nil)
                  · go_simp
                    refine hK.out _ _ hH (fun hH => ?_)
                    clear hK K
                    try simp only [Act.put, List.setIfInBounds_toArray, List.set_cons_zero, List.set_cons_succ]
                    refine wpAnyH_ready (rs := [7]) (by kernel_rfl) (by simp) ?_
                    refine AllReadyH.cons (o := { dst := some 103, op := Op.call { callee := Callee.value (Operand.func 36), args := #[Operand.tmp 102], argTypes := #[64] }, type := 64, pos := "ref.go:366", after := #[{ on := 6, ground := Ground.data }], guard := none }) rfl (fun K hK => ?_) AllReadyH.nil
                    go_simp
                    go_at_call 36
                    refine HIH.out.mono ?_
                    rintro e W' ⟨us, rfl, hm', hb'⟩
                    obtain ⟨p1, q1, p2, q2, p3, q3, p4, q4, hus, -⟩ := CaseD.cells hm'
                    subst hus
                    obtain ⟨g', vc', W8, hap, hA8, hg8⟩ := HPU.out _ hb' [.int .i64 st.id, .string st.model, .int .i64 st.version, .slice p1 st.values.length q1, .slice p2 st.opn.length q2, .slice p3 st.done.length q3, .slice p4 st.acted.length q4] rfl rfl hm' (fun u hu => by simp only [List.mem_cons, List.not_mem_nil, or_false] at hu; rcases hu with rfl | rfl | rfl | rfl | rfl | rfl | rfl <;> rfl) (by rw [HTL.out]; have := HML.out; unfold maxLen; omega) (by rw [HTL.out]; have := HML.out; omega)
                    rw [HTL.out] at hap
                    rw [← HST.out] at hA8
                    have HN8 := Lib.hid (HTK.out _ _ _ _ hA8)
                    have HAP := Lib.hid hap
                    have HG8 := Lib.hid hg8
                    have c5' := (HZ.out.call hb').bx.cr 5 _ rfl
                    have c8 := HN8.out.bx.cr 5 _ rfl
                    have f8 := HN8.out.bx.fr 5
                    have HB' := Lib.hid hb'
                    clear hm' hb' hap hA8 hg8
                    go_wp2_with fail
                    refine hK.out _ _ (KpJ.call hH HB'.out) (fun hH => ?_)
                    clear hK K
                    try simp only [Act.put, List.setIfInBounds_toArray, List.set_cons_zero, List.set_cons_succ]
                    refine wpAnyH_ready (rs := [8]) (by kernel_rfl) (by simp) ?_
                    refine AllReadyH.cons (o := { dst := some 104, op := Op.buildSlice 29 1 #[(0, Operand.tmp 103)], type := 29, pos := "ref.go:366", after := #[{ on := 7, ground := Ground.data }], guard := none }) rfl (fun K hK => ?_) AllReadyH.nil
                    go_simp
                    refine hK.out _ _ (KpJ.call hH ((Below.refl _ _).alloc (Nat.le_refl _) _)) (fun hH => ?_)
                    clear hK K
                    try simp only [Act.put, List.setIfInBounds_toArray, List.set_cons_zero, List.set_cons_succ]
                    have c5a := ((HZ.out.call HB'.out).call ((Below.refl _ _).alloc (Nat.le_refl _) (.cells #[.int .i64 st.id, .string st.model, .int .i64 st.version, .slice p1 st.values.length q1, .slice p2 st.opn.length q2, .slice p3 st.done.length q3, .slice p4 st.acted.length q4] 64))).bx.cr 5 _ rfl
                    refine wpAnyH_ready (rs := [9]) (by kernel_rfl) (by simp) ?_
                    refine AllReadyH.cons (o := { dst := some 105, op := Op.call { callee := Callee.builtin Builtin.append, args := #[Operand.tmp 97, Operand.tmp 104], argTypes := #[29, 29] }, type := 29, pos := "ref.go:366", after := #[{ on := 1, ground := Ground.data }, { on := 8, ground := Ground.data }, { on := 7, ground := Ground.chain }], guard := none }) rfl (fun K hK => ?_) AllReadyH.nil
                    refine step_append_run (by rfl) (.tmp 97) (.tmp 104) 29 (by rfl) (by rfl) (by rfl) HAP.out ?_
                    refine hK.out _ _ (KpJ.grown hH HG8.out HVA.out) (fun hH => ?_)
                    clear hK K
                    try simp only [Act.put, List.setIfInBounds_toArray, List.set_cons_zero, List.set_cons_succ]
                    refine wpAnyH_take (i := 10) (oi := { dst := some 106, op := Op.fieldAddr 35 (Operand.tmp 3) 5, type := 0, pos := "ref.go:366", after := #[{ on := 0, ground := Ground.phase }, { on := 1, ground := Ground.phase }, { on := 2, ground := Ground.phase }, { on := 3, ground := Ground.phase }, { on := 4, ground := Ground.phase }, { on := 5, ground := Ground.phase }, { on := 6, ground := Ground.phase }, { on := 7, ground := Ground.phase }, { on := 8, ground := Ground.phase }, { on := 9, ground := Ground.phase }], guard := none }) (v := .pointer (some ⟨w.heap.size + 1 + 1, 5, none⟩)) rfl (by kernel_rfl) (by kernel_rfl) (by kernel_rfl) (fun _ _ _ h => h) (Or.inl ⟨by rfl, fun W hS => by go_simp⟩) hH ?_
                    simp only [Act.put, List.setIfInBounds_toArray, List.set_cons_zero, List.set_cons_succ]
                    refine wpAnyH_ready (rs := [11]) (by kernel_rfl) (by simp) ?_
                    refine AllReadyH.cons (o := { dst := none, op := Op.store 29 (Operand.tmp 106) (Operand.tmp 105), type := 0, pos := "ref.go:366", after := #[{ on := 10, ground := Ground.data }, { on := 9, ground := Ground.data }, { on := 9, ground := Ground.chain }, { on := 0, ground := Ground.phase }, { on := 1, ground := Ground.phase }, { on := 2, ground := Ground.phase }, { on := 3, ground := Ground.phase }, { on := 4, ground := Ground.phase }, { on := 5, ground := Ground.phase }, { on := 6, ground := Ground.phase }, { on := 7, ground := Ground.phase }, { on := 8, ground := Ground.phase }, { on := 9, ground := Ground.phase }], guard := none }) rfl (fun K hK => ?_) AllReadyH.nil
                    go_simp
                    refine hK.out _ _ (KpJ.set hH _ _) (fun hH => ?_)
                    clear hK K
                    try simp only [Act.put, List.setIfInBounds_toArray, List.set_cons_zero, List.set_cons_succ]
                    refine wpAnyH_done (by kernel_rfl) ?_ _
                    have wr1 : IntKind.i64.wrap ((m : Int) + 1) = (m : Int) + 1 := wrap_i64 (by omega) (by have := HML.out; omega)
                    go_wp2_with fail
                    have H9 := Lib.hid (HN8.out.setR 5 (.slice (some ⟨g', 0, none⟩) (m + 1) vc'))
                    go_roundw
                    case rel => exact ⟨m + 1, _, _, _, by omega, by go_num, H9⟩
                    case measure => simp [intOf]; omega
                  · go_simp
                    go_at_call 36
                    refine HIH.out.mono ?_
                    rintro e W' ⟨us, rfl, hm', hb'⟩
                    obtain ⟨p1, q1, p2, q2, p3, q3, p4, q4, hus, -⟩ := CaseD.cells hm'
                    subst hus
                    obtain ⟨g', vc', W8, hap, hA8, hg8⟩ := HPU.out _ hb' [.int .i64 st.id, .string st.model, .int .i64 st.version, .slice p1 st.values.length q1, .slice p2 st.opn.length q2, .slice p3 st.done.length q3, .slice p4 st.acted.length q4] rfl rfl hm' (fun u hu => by simp only [List.mem_cons, List.not_mem_nil, or_false] at hu; rcases hu with rfl | rfl | rfl | rfl | rfl | rfl | rfl <;> rfl) (by rw [HTL.out]; have := HML.out; unfold maxLen; omega) (by rw [HTL.out]; have := HML.out; omega)
                    rw [HTL.out] at hap
                    rw [← HST.out] at hA8
                    have HN8 := Lib.hid (HTK.out _ _ _ _ hA8)
                    have HAP := Lib.hid hap
                    have HG8 := Lib.hid hg8
                    have c5' := (HZ.out.call hb').bx.cr 5 _ rfl
                    have c8 := HN8.out.bx.cr 5 _ rfl
                    have f8 := HN8.out.bx.fr 5
                    have HB' := Lib.hid hb'
                    clear hm' hb' hap hA8 hg8
                    go_wp2_with fail
                    refine hK.out _ _ (KpJ.call hH HB'.out) (fun hH => ?_)
                    clear hK K
                    try simp only [Act.put, List.setIfInBounds_toArray, List.set_cons_zero, List.set_cons_succ]
                    refine wpAnyH_ready (rs := [1, 8]) (by kernel_rfl) (by simp) ?_
                    refine AllReadyH.cons (o := { dst := some 97, op := Op.load 29 (Operand.tmp 96), type := 29, pos := "ref.go:366", after := #[{ on := 0, ground := Ground.data }], guard := none }) rfl (fun K hK => ?_) (AllReadyH.cons (o := { dst := some 104, op := Op.buildSlice 29 1 #[(0, Operand.tmp 103)], type := 29, pos := "ref.go:366", after := #[{ on := 7, ground := Ground.data }], guard := none }) rfl (fun K hK => ?_) AllReadyH.nil)
                    · go_simp
                      refine hK.out _ _ hH (fun hH => ?_)
                      clear hK K
                      try simp only [Act.put, List.setIfInBounds_toArray, List.set_cons_zero, List.set_cons_succ]
                      refine wpAnyH_ready (rs := [8]) (by kernel_rfl) (by simp) ?_
                      refine AllReadyH.cons (o := { dst := some 104, op := Op.buildSlice 29 1 #[(0, Operand.tmp 103)], type := 29, pos := "ref.go:366", after := #[{ on := 7, ground := Ground.data }], guard := none }) rfl (fun K hK => ?_) AllReadyH.nil
                      go_simp
                      refine hK.out _ _ (KpJ.call hH ((Below.refl _ _).alloc (Nat.le_refl _) _)) (fun hH => ?_)
                      clear hK K
                      try simp only [Act.put, List.setIfInBounds_toArray, List.set_cons_zero, List.set_cons_succ]
                      have c5a := ((HZ.out.call HB'.out).call ((Below.refl _ _).alloc (Nat.le_refl _) (.cells #[.int .i64 st.id, .string st.model, .int .i64 st.version, .slice p1 st.values.length q1, .slice p2 st.opn.length q2, .slice p3 st.done.length q3, .slice p4 st.acted.length q4] 64))).bx.cr 5 _ rfl
                      refine wpAnyH_ready (rs := [9]) (by kernel_rfl) (by simp) ?_
                      refine AllReadyH.cons (o := { dst := some 105, op := Op.call { callee := Callee.builtin Builtin.append, args := #[Operand.tmp 97, Operand.tmp 104], argTypes := #[29, 29] }, type := 29, pos := "ref.go:366", after := #[{ on := 1, ground := Ground.data }, { on := 8, ground := Ground.data }, { on := 7, ground := Ground.chain }], guard := none }) rfl (fun K hK => ?_) AllReadyH.nil
                      refine step_append_run (by rfl) (.tmp 97) (.tmp 104) 29 (by rfl) (by rfl) (by rfl) HAP.out ?_
                      refine hK.out _ _ (KpJ.grown hH HG8.out HVA.out) (fun hH => ?_)
                      clear hK K
                      try simp only [Act.put, List.setIfInBounds_toArray, List.set_cons_zero, List.set_cons_succ]
                      refine wpAnyH_take (i := 10) (oi := { dst := some 106, op := Op.fieldAddr 35 (Operand.tmp 3) 5, type := 0, pos := "ref.go:366", after := #[{ on := 0, ground := Ground.phase }, { on := 1, ground := Ground.phase }, { on := 2, ground := Ground.phase }, { on := 3, ground := Ground.phase }, { on := 4, ground := Ground.phase }, { on := 5, ground := Ground.phase }, { on := 6, ground := Ground.phase }, { on := 7, ground := Ground.phase }, { on := 8, ground := Ground.phase }, { on := 9, ground := Ground.phase }], guard := none }) (v := .pointer (some ⟨w.heap.size + 1 + 1, 5, none⟩)) rfl (by kernel_rfl) (by kernel_rfl) (by kernel_rfl) (fun _ _ _ h => h) (Or.inl ⟨by rfl, fun W hS => by go_simp⟩) hH ?_
                      simp only [Act.put, List.setIfInBounds_toArray, List.set_cons_zero, List.set_cons_succ]
                      refine wpAnyH_ready (rs := [11]) (by kernel_rfl) (by simp) ?_
                      refine AllReadyH.cons (o := { dst := none, op := Op.store 29 (Operand.tmp 106) (Operand.tmp 105), type := 0, pos := "ref.go:366", after := #[{ on := 10, ground := Ground.data }, { on := 9, ground := Ground.data }, { on := 9, ground := Ground.chain }, { on := 0, ground := Ground.phase }, { on := 1, ground := Ground.phase }, { on := 2, ground := Ground.phase }, { on := 3, ground := Ground.phase }, { on := 4, ground := Ground.phase }, { on := 5, ground := Ground.phase }, { on := 6, ground := Ground.phase }, { on := 7, ground := Ground.phase }, { on := 8, ground := Ground.phase }, { on := 9, ground := Ground.phase }], guard := none }) rfl (fun K hK => ?_) AllReadyH.nil
                      go_simp
                      refine hK.out _ _ (KpJ.set hH _ _) (fun hH => ?_)
                      clear hK K
                      try simp only [Act.put, List.setIfInBounds_toArray, List.set_cons_zero, List.set_cons_succ]
                      refine wpAnyH_done (by kernel_rfl) ?_ _
                      have wr1 : IntKind.i64.wrap ((m : Int) + 1) = (m : Int) + 1 := wrap_i64 (by omega) (by have := HML.out; omega)
                      go_wp2_with fail
                      have H9 := Lib.hid (HN8.out.setR 5 (.slice (some ⟨g', 0, none⟩) (m + 1) vc'))
                      go_roundw
                      case rel => exact ⟨m + 1, _, _, _, by omega, by go_num, H9⟩
                      case measure => simp [intOf]; omega
                    · go_simp
                      refine hK.out _ _ (KpJ.call hH ((Below.refl _ _).alloc (Nat.le_refl _) _)) (fun hH => ?_)
                      clear hK K
                      try simp only [Act.put, List.setIfInBounds_toArray, List.set_cons_zero, List.set_cons_succ]
                      have c5a := ((HZ.out.call HB'.out).call ((Below.refl _ _).alloc (Nat.le_refl _) (.cells #[.int .i64 st.id, .string st.model, .int .i64 st.version, .slice p1 st.values.length q1, .slice p2 st.opn.length q2, .slice p3 st.done.length q3, .slice p4 st.acted.length q4] 64))).bx.cr 5 _ rfl
                      refine wpAnyH_ready (rs := [1]) (by kernel_rfl) (by simp) ?_
                      refine AllReadyH.cons (o := { dst := some 97, op := Op.load 29 (Operand.tmp 96), type := 29, pos := "ref.go:366", after := #[{ on := 0, ground := Ground.data }], guard := none }) rfl (fun K hK => ?_) AllReadyH.nil
                      go_simp
                      refine hK.out _ _ hH (fun hH => ?_)
                      clear hK K
                      try simp only [Act.put, List.setIfInBounds_toArray, List.set_cons_zero, List.set_cons_succ]
                      refine wpAnyH_ready (rs := [9]) (by kernel_rfl) (by simp) ?_
                      refine AllReadyH.cons (o := { dst := some 105, op := Op.call { callee := Callee.builtin Builtin.append, args := #[Operand.tmp 97, Operand.tmp 104], argTypes := #[29, 29] }, type := 29, pos := "ref.go:366", after := #[{ on := 1, ground := Ground.data }, { on := 8, ground := Ground.data }, { on := 7, ground := Ground.chain }], guard := none }) rfl (fun K hK => ?_) AllReadyH.nil
                      refine step_append_run (by rfl) (.tmp 97) (.tmp 104) 29 (by rfl) (by rfl) (by rfl) HAP.out ?_
                      refine hK.out _ _ (KpJ.grown hH HG8.out HVA.out) (fun hH => ?_)
                      clear hK K
                      try simp only [Act.put, List.setIfInBounds_toArray, List.set_cons_zero, List.set_cons_succ]
                      refine wpAnyH_take (i := 10) (oi := { dst := some 106, op := Op.fieldAddr 35 (Operand.tmp 3) 5, type := 0, pos := "ref.go:366", after := #[{ on := 0, ground := Ground.phase }, { on := 1, ground := Ground.phase }, { on := 2, ground := Ground.phase }, { on := 3, ground := Ground.phase }, { on := 4, ground := Ground.phase }, { on := 5, ground := Ground.phase }, { on := 6, ground := Ground.phase }, { on := 7, ground := Ground.phase }, { on := 8, ground := Ground.phase }, { on := 9, ground := Ground.phase }], guard := none }) (v := .pointer (some ⟨w.heap.size + 1 + 1, 5, none⟩)) rfl (by kernel_rfl) (by kernel_rfl) (by kernel_rfl) (fun _ _ _ h => h) (Or.inl ⟨by rfl, fun W hS => by go_simp⟩) hH ?_
                      simp only [Act.put, List.setIfInBounds_toArray, List.set_cons_zero, List.set_cons_succ]
                      refine wpAnyH_ready (rs := [11]) (by kernel_rfl) (by simp) ?_
                      refine AllReadyH.cons (o := { dst := none, op := Op.store 29 (Operand.tmp 106) (Operand.tmp 105), type := 0, pos := "ref.go:366", after := #[{ on := 10, ground := Ground.data }, { on := 9, ground := Ground.data }, { on := 9, ground := Ground.chain }, { on := 0, ground := Ground.phase }, { on := 1, ground := Ground.phase }, { on := 2, ground := Ground.phase }, { on := 3, ground := Ground.phase }, { on := 4, ground := Ground.phase }, { on := 5, ground := Ground.phase }, { on := 6, ground := Ground.phase }, { on := 7, ground := Ground.phase }, { on := 8, ground := Ground.phase }, { on := 9, ground := Ground.phase }], guard := none }) rfl (fun K hK => ?_) AllReadyH.nil
                      go_simp
                      refine hK.out _ _ (KpJ.set hH _ _) (fun hH => ?_)
                      clear hK K
                      try simp only [Act.put, List.setIfInBounds_toArray, List.set_cons_zero, List.set_cons_succ]
                      refine wpAnyH_done (by kernel_rfl) ?_ _
                      have wr1 : IntKind.i64.wrap ((m : Int) + 1) = (m : Int) + 1 := wrap_i64 (by omega) (by have := HML.out; omega)
                      go_wp2_with fail
                      have H9 := Lib.hid (HN8.out.setR 5 (.slice (some ⟨g', 0, none⟩) (m + 1) vc'))
                      go_roundw
                      case rel => exact ⟨m + 1, _, _, _, by omega, by go_num, H9⟩
                      case measure => simp [intOf]; omega
                · have hme : m = sd.cases.length := by omega
                  subst hme
                  have i1 : ¬ (sd.cases.length : Int) < (sd.cases.length : Int) := by omega
                  have hd1 := HT.out.done (by omega)
                  rw [List.take_of_length_le (Nat.le_refl _)] at hd1
                  have HD4 := Lib.hid hd1
                  clear HT hd1 H4
                  have f6 := HD4.out.bx.fr 6
                  have c6 := HD4.out.bx.cr 6 _ rfl
                  have kq := HD4.out.bx.cp 5 _ rfl
                  go_upto_region 28 with fail
                  have HTa := Lib.hid (HD4.out.setR 6 (.slice none 0 0))
                  clear HD4 f6 c6 kq
                  revert HTa
                  generalize wr.setCell ⟨w.heap.size + 1 + 1, 6, none⟩ (.slice none 0 0) = Z4
                  intro HTa
                  obtain ⟨vat, vct, w6, hap, hm, hb, -⟩ := flat_app elemTimer 30 (HM.out.t.grow HTa.out.bx.below) (fun _ => rfl) (fun x u hu => by simp only [TimerD.cs, List.mem_cons, List.not_mem_nil, or_false] at hu; rcases hu with rfl | rfl | rfl | rfl | rfl <;> rfl) (by have := HO.out.tl; unfold maxLen; omega) (by have := HO.out.tl; omega)
                  have HAP := Lib.hid hap
                  have HD5 := Lib.hid ((HTa.out.made hb hm).setR 6 (.slice vat sd.timers.length vct))
                  have k6 := HTa.out.bx.cp 6 _ rfl
                  have c6 := HTa.out.bx.cr 6 _ rfl
                  have c6' := (HTa.out.bx.call hb).cr 6 _ rfl
                  have f6 := (HTa.out.bx.call hb).fr 6
                  clear hap hm hb HTa
                  go_upto_region 29 with (at_builtin; refine wpList_append_run rfl (.tmp 109) (.tmp 111) 30 rfl rfl rfl HAP.out ?_)
                  clear HAP k6 c6 c6' f6
                  revert HD5
                  generalize w6.setCell ⟨w.heap.size + 1 + 1, 6, none⟩ _ = U5
                  intro HD5
                  have f7 := HD5.out.bx.fr 7
                  have c7 := HD5.out.bx.cr 7 _ rfl
                  have kq := HD5.out.bx.cp 5 _ rfl
                  go_upto_region 30 with fail
                  have HTa := Lib.hid (HD5.out.setR 7 (.slice none 0 0))
                  clear HD5 f7 c7 kq
                  revert HTa
                  generalize U5.setCell ⟨w.heap.size + 1 + 1, 7, none⟩ (.slice none 0 0) = Z5
                  intro HTa
                  obtain ⟨vak, vck, w7, hap, hm, hb, -⟩ := flat_app elemWork 31 (HM.out.k.grow HTa.out.bx.below) (fun _ => rfl) (fun x u hu => by simp only [WorkD.cs, List.mem_cons, List.not_mem_nil, or_false] at hu; rcases hu with rfl | rfl | rfl | rfl | rfl | rfl <;> rfl) (by have := HO.out.wl; unfold maxLen; omega) (by have := HO.out.wl; omega)
                  have HAP := Lib.hid hap
                  have HD6 := Lib.hid ((HTa.out.made hb hm).setR 7 (.slice vak sd.works.length vck))
                  have k7 := HTa.out.bx.cp 7 _ rfl
                  have c7 := HTa.out.bx.cr 7 _ rfl
                  have c7' := (HTa.out.bx.call hb).cr 7 _ rfl
                  have f7 := (HTa.out.bx.call hb).fr 7
                  clear hap hm hb HTa
                  go_upto_region 31 with (at_builtin; refine wpList_append_run rfl (.tmp 116) (.tmp 118) 31 rfl rfl rfl HAP.out ?_)
                  clear HAP k7 c7 c7' f7
                  revert HD6
                  generalize w7.setCell ⟨w.heap.size + 1 + 1, 7, none⟩ _ = U6
                  intro HD6
                  have f8 := HD6.out.bx.fr 8
                  have c8 := HD6.out.bx.cr 8 _ rfl
                  have kq := HD6.out.bx.cp 5 _ rfl
                  go_upto_region 32 with fail
                  have HTa := Lib.hid (HD6.out.setR 8 (.slice none 0 0))
                  clear HD6 f8 c8 kq
                  revert HTa
                  generalize U6.setCell ⟨w.heap.size + 1 + 1, 8, none⟩ (.slice none 0 0) = Z6
                  intro HTa
                  obtain ⟨vaa, vca, w8, hap, hm, hb, -⟩ := flat_app elemRecord 32 (HM.out.a.grow HTa.out.bx.below) (fun _ => rfl) (fun x u hu => by simp only [RecD.cs, List.mem_cons, List.not_mem_nil, or_false] at hu; rcases hu with rfl | rfl | rfl | rfl | rfl | rfl <;> rfl) (by have := HO.out.al; unfold maxLen; omega) (by have := HO.out.al; omega)
                  have HAP := Lib.hid hap
                  have HD7 := Lib.hid ((HTa.out.made hb hm).setR 8 (.slice vaa sd.audit.length vca))
                  have k8 := HTa.out.bx.cp 8 _ rfl
                  have c8 := HTa.out.bx.cr 8 _ rfl
                  have c8' := (HTa.out.bx.call hb).cr 8 _ rfl
                  have f8 := (HTa.out.bx.call hb).fr 8
                  clear hap hm hb HTa
                  go_upto_region 33 with (at_builtin; refine wpList_append_run rfl (.tmp 123) (.tmp 125) 32 rfl rfl rfl HAP.out ?_)
                  clear HAP k8 c8 c8' f8
                  revert HD7
                  generalize w8.setCell ⟨w.heap.size + 1 + 1, 8, none⟩ _ = U7
                  intro HD7
                  have f9 := HD7.out.bx.fr 9
                  have c9 := HD7.out.bx.cr 9 _ rfl
                  have kq := HD7.out.bx.cp 5 _ rfl
                  go_upto_region 34 with fail
                  have HTa := Lib.hid (HD7.out.setR 9 (.slice none 0 0))
                  clear HD7 f9 c9 kq
                  revert HTa
                  generalize U7.setCell ⟨w.heap.size + 1 + 1, 9, none⟩ (.slice none 0 0) = Z7
                  intro HTa
                  obtain ⟨vae, vce, w9, hap, hm, hb, -⟩ := flat_app elemSession 33 (HM.out.e.grow HTa.out.bx.below) (fun _ => rfl) (fun x u hu => by simp only [SessD.cs, List.mem_cons, List.not_mem_nil, or_false] at hu; rcases hu with rfl | rfl | rfl <;> rfl) (by have := HO.out.sl; unfold maxLen; omega) (by have := HO.out.sl; omega)
                  have HAP := Lib.hid hap
                  have HD8 := Lib.hid ((HTa.out.made hb hm).setR 9 (.slice vae sd.sess.length vce))
                  have k9 := HTa.out.bx.cp 9 _ rfl
                  have c9 := HTa.out.bx.cr 9 _ rfl
                  have c9' := (HTa.out.bx.call hb).cr 9 _ rfl
                  have f9 := (HTa.out.bx.call hb).fr 9
                  clear hap hm hb HTa
                  go_upto_region 35 with (at_builtin; refine wpList_append_run rfl (.tmp 130) (.tmp 132) 33 rfl rfl rfl HAP.out ?_)
                  clear HAP k9 c9 c9' f9
                  revert HD8
                  generalize w9.setCell ⟨w.heap.size + 1 + 1, 9, none⟩ _ = U8
                  intro HD8
                  have r0 := HD8.out.bx.cr 0 _ rfl
                  have r1 := HD8.out.bx.cr 1 _ rfl
                  have r2 := HD8.out.bx.cr 2 _ rfl
                  have r3 := HD8.out.bx.cr 3 _ rfl
                  have r4 := HD8.out.bx.cr 4 _ rfl
                  have r5 := HD8.out.bx.cr 5 _ rfl
                  have r6 := HD8.out.bx.cr 6 _ rfl
                  have r7 := HD8.out.bx.cr 7 _ rfl
                  have r8 := HD8.out.bx.cr 8 _ rfl
                  have r9 := HD8.out.bx.cr 9 _ rfl
                  have r10 := HD8.out.bx.cr 10 _ rfl
                  have r11 := HD8.out.bx.cr 11 _ rfl
                  have r12 := HD8.out.bx.cr 12 _ rfl
                  have r13 := HD8.out.bx.cr 13 _ rfl
                  have q0 := HD8.out.bx.cq 0 _ rfl
                  have q1 := HD8.out.bx.cq 1 _ rfl
                  have q2 := HD8.out.bx.cq 2 _ rfl
                  have q3 := HD8.out.bx.cq 3 _ rfl
                  have q4 := HD8.out.bx.cq 4 _ rfl
                  have q5 := HD8.out.bx.cq 5 _ rfl
                  have q6 := HD8.out.bx.cq 6 _ rfl
                  have q7 := HD8.out.bx.cq 7 _ rfl
                  have q8 := HD8.out.bx.cq 8 _ rfl
                  have q9 := HD8.out.bx.cq 9 _ rfl
                  have q10 := HD8.out.bx.cq 10 _ rfl
                  have q11 := HD8.out.bx.cq 11 _ rfl
                  have q12 := HD8.out.bx.cq 12 _ rfl
                  have q13 := HD8.out.bx.cq 13 _ rfl
                  have hf := HD8.out.bx.fq
                  go_wp2_with fail
                  have h7 := ((((((((((((((HD8.out.setQ 0 (.int .i64 sd.clock)).setQ 1 (.string sd.secret)).setQ 2 (.slice vau sd.users.length vcu)).setQ 3 (.slice var sd.roles.length vcr)).setQ 4 (.slice vam sd.models.length vcm)).setQ 5 (.slice vac sd.cases.length vcc)).setQ 6 (.slice vat sd.timers.length vct)).setQ 7 (.slice vak sd.works.length vck)).setQ 8 (.slice vaa sd.audit.length vca)).setQ 9 (.slice vae sd.sess.length vce)).setQ 10 (.int .i64 sd.nc)).setQ 11 (.int .i64 sd.nw)).setQ 12 (.int .i64 sd.np)).setQ 13 (.int .i64 sd.nt))
                  have hfr := fun p hp => (h7.ms p hp).weak (P' := From w.heap.size) fun b hb _ => by have := hb.1; show w.heap.size ≤ b; omega
                  exact ret_stwin (sd := sd) (.slice vau sd.users.length vcu) (.slice var sd.roles.length vcr) (.slice vam sd.models.length vcm) (.slice vac sd.cases.length vcc) (.slice vat sd.timers.length vct) (.slice vak sd.works.length vck) (.slice vaa sd.audit.length vca) (.slice vae sd.sess.length vce) h7.bx rfl rfl (HDS.out _ _ (stateM_ds ⟨hfr (.list 4 (sd.users.map UserD.ds), .slice vau sd.users.length vcu) (by simp), hfr (.list 3 (sd.roles.map RoleD.ds), .slice var sd.roles.length vcr) (by simp), hfr (.list 7 (sd.models.map VerD.ds), .slice vam sd.models.length vcm) (by simp), hfr (.list 7 (sd.cases.map CaseD.ds), .slice vac sd.cases.length vcc) (by simp), hfr (flatL 5 TimerD.cs sd.timers, .slice vat sd.timers.length vct) (by simp), hfr (flatL 6 WorkD.cs sd.works, .slice vak sd.works.length vck) (by simp), hfr (flatL 6 RecD.cs sd.audit, .slice vaa sd.audit.length vca) (by simp), hfr (flatL 3 SessD.cs sd.sess, .slice vae sd.sess.length vce) (by simp)⟩) h7.bx.below)
end Go.Proofs.YtinijohmdljieaaGreatDoor
