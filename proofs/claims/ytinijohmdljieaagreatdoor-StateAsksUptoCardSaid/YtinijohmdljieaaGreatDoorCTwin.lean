/- docketref19.Twin. -/
import Derived.Test.YtinijohmdljieaaGreatDoorH09
import Derived.Deep.RegionHeld3
namespace Go.Proofs.YtinijohmdljieaaGreatDoor
open Go.RowKit

theorem elemBool : Elem Tryz.prog 61 4 1 1 := ⟨Tryz.underlying61, ⟨.bool false, by kernel_rfl, rfl⟩, by omega, Tryz.sizeOf4⟩
theorem elemActed : Elem Tryz.prog 62 120 2 32 := ⟨Tryz.underlying62, ⟨.agg #[.string ⟨#[]⟩, .string ⟨#[]⟩], by kernel_rfl, rfl⟩, by omega, Tryz.sizeOf120⟩
abbrev caseC (c : CaseD) (v o d a : Value) : List Value := [.int .i64 c.id, .string c.model, .int .i64 c.version, v, o, d, a]
abbrev caseZ : List Value := [.int .i64 0, .string ⟨#[]⟩, .int .i64 0, .slice none 0 0, .slice none 0 0, .slice none 0 0, .slice none 0 0]
structure CaseD.Ok (c : CaseD) : Prop where
  vl : c.values.length ≤ 1048576
  vj : ∀ e ∈ c.values, IsJson e
  ol : c.opn.length ≤ 1048576
  dl : c.done.length ≤ 1048576
  al : c.acted.length ≤ 1048576
structure CaseM (o : Bool) (P : Nat → Prop) (w : World) (c : CaseD) (v op d a : Value) : Prop where
  v : Mem o P w (.list 6 c.values) v
  op : Mem o P w (flatL 1 boolC c.opn) op
  d : Mem o P w (flatL 1 boolC c.done) d
  a : Mem o P w (flatL 2 pairC c.acted) a
theorem CaseM.grow {o : Bool} {P : Nat → Prop} {w w' : World} {c : CaseD} {v op d a : Value} (h : CaseM o P w c v op d a) (hb : Below w.heap.size w w') : CaseM o P w' c v op d a := ⟨h.v.grow hb, h.op.grow hb, h.d.grow hb, h.a.grow hb⟩
theorem CaseD.cells {o : Bool} {P : Nat → Prop} {w : World} {c : CaseD} {us : List Value} (h : MemL o P w c.ds us) : ∃ a1 c1 a2 c2 a3 c3 a4 c4, us = caseC c (.slice a1 c.values.length c1) (.slice a2 c.opn.length c2) (.slice a3 c.done.length c3) (.slice a4 c.acted.length c4) ∧
    CaseM o P w c (.slice a1 c.values.length c1) (.slice a2 c.opn.length c2) (.slice a3 c.done.length c3) (.slice a4 c.acted.length c4) := by
  obtain ⟨x0, y0, rfl, h0, h⟩ := MemL.inv h
  obtain ⟨x1, y1, rfl, h1, h⟩ := h.inv
  obtain ⟨x2, y2, rfl, h2, h⟩ := h.inv
  obtain ⟨x3, y3, rfl, h3, h⟩ := h.inv
  obtain ⟨x4, y4, rfl, h4, h⟩ := h.inv
  obtain ⟨x5, y5, rfl, h5, h⟩ := h.inv
  obtain ⟨x6, y6, rfl, h6, h⟩ := h.inv
  obtain rfl := h.inv0
  obtain ⟨a1, c1, _, _, _, rfl, -, -⟩ := h3.listInv
  obtain ⟨a2, c2, _, _, rfl, -, -⟩ := flat_open h4
  obtain ⟨a3, c3, _, _, rfl, -, -⟩ := flat_open h5
  obtain ⟨a4, c4, _, _, rfl, -, -⟩ := flat_open h6
  exact ⟨a1, c1, a2, c2, a3, c3, a4, c4, by rw [h0.atomInv, h1.atomInv, h2.atomInv], h3, h4, h5, h6⟩
theorem caseM_ds {o : Bool} {P : Nat → Prop} {w : World} {c : CaseD} {v op d a : Value} (h : CaseM o P w c v op d a) : MemL o P w c.ds (caseC c v op d a) :=
  .cons (.atom _) (.cons (.atom _) (.cons (.atom _) (.cons h.v (.cons h.op (.cons h.d (.cons h.a (MemL.nil _ _ _)))))))
theorem ret_ctwin {w W : World} {a : Act} {x z : List Value} {c : CaseD} {v1 v2 v3 v4 : Value} {R : Ending → World → Prop} (h : B3 64 7 w W x (caseC c v1 v2 v3 v4) z) (hp : a.tmps.getD 2 undef = .pointer (some ⟨w.heap.size + 1, 0, none⟩)) (hd : a.defers = [])
    (hR : R (.returned (.agg (caseC c v1 v2 v3 v4).toArray)) W) : bodyPost Tryz.prog Tryz.f36 R .ret a W := by
  refine bodyPost_ret ?_ hd hR
  have hp' : a.tmps[2]?.getD undef = .pointer (some ⟨w.heap.size + 1, 0, none⟩) := by simpa using hp
  simp [results, Tryz.results36, hp', go_sem, h.cq 0 _ rfl, h.cq 1 _ rfl, h.cq 2 _ rfl, h.cq 3 _ rfl, h.cq 4 _ rfl, h.cq 5 _ rfl, h.cq 6 _ rfl]
/-- how a copy ends -/
def CopyEnd (ds : List D) (w : World) (e : Ending) (w' : World) : Prop := ∃ us, e = .returned (.agg us.toArray) ∧ MemL true (From w.heap.size) w' ds us ∧ Below w.heap.size w w'
set_option maxHeartbeats 8000000 in
set_option maxRecDepth 100000 in
theorem caseTwin (cd : CaseD) (hok : cd.Ok) (us : List Value) (w : World) (hm : MemL false (From 0) w cd.ds us) : Calls Tryz.prog 36 #[.agg us.toArray] w (CopyEnd cd.ds w) := by
  obtain ⟨a1, c1, a2, c2, a3, c3, a4, c4, rfl, hM⟩ := CaseD.cells hm
  obtain ⟨_, _, b2, o2, vs0, hve, -, hC⟩ := hM.v.listInv
  injection hve with hv1 hv2 hv3
  subst hv1 hv3
  have HM := Lib.hid hM
  have HC := Lib.hid hC
  have HJA := Lib.hid hok.vj
  have HLE := Lib.hid hok.vl
  have HO := Lib.hid hok
  have HDS : Hid (∀ W us, MemL true (From w.heap.size) W cd.ds us → Below w.heap.size w W → CopyEnd cd.ds w (.returned (.agg us.toArray)) W) := fun W us h1 h2 => ⟨us, rfl, h1, h2⟩
  generalize CopyEnd cd.ds w = R at HDS ⊢
  have HB0 := Lib.hid (B3.start w 64 7 #[.int .i64 cd.id, .string cd.model, .int .i64 cd.version, .slice a1 cd.values.length c1, .slice a2 cd.opn.length c2, .slice a3 cd.done.length c3, .slice a4 cd.acted.length c4] #[.int .i64 0, .string ⟨#[]⟩, .int .i64 0, .slice none 0 0, .slice none 0 0, .slice none 0 0, .slice none 0 0] #[.int .i64 cd.id, .string cd.model, .int .i64 cd.version, .slice none 0 0, .slice a2 cd.opn.length c2, .slice a3 cd.done.length c3, .slice a4 cd.acted.length c4] rfl rfl rfl)
  clear hm hM hC hok hv2
  go_enter Tryz.func36, Tryz.ntmps36
  go_upto_region 4 with fail
  revert HB0
  generalize (((w.alloc (.cells #[.int .i64 cd.id, .string cd.model, .int .i64 cd.version, .slice a1 cd.values.length c1, .slice a2 cd.opn.length c2, .slice a3 cd.done.length c3, .slice a4 cd.acted.length c4] 64)).alloc (.cells #[.int .i64 0, .string ⟨#[]⟩, .int .i64 0, .slice none 0 0, .slice none 0 0, .slice none 0 0, .slice none 0 0] 64)).alloc (.cells #[.int .i64 cd.id, .string cd.model, .int .i64 cd.version, .slice none 0 0, .slice a2 cd.opn.length c2, .slice a3 cd.done.length c3, .slice a4 cd.acted.length c4] 64)) = W2
  intro HB0
  have HT0 := Lib.hid (TA.start (⟨HB0.out, fun p hp => by cases hp⟩ : TB 64 7 [] w W2 (caseC cd (.slice a1 cd.values.length c1) (.slice a2 cd.opn.length c2) (.slice a3 cd.done.length c3) (.slice a4 cd.acted.length c4)) caseZ (caseC cd (.slice none 0 0) (.slice a2 cd.opn.length c2) (.slice a3 cd.done.length c3) (.slice a4 cd.acted.length c4))) 77 6 (id : List D → List D))
  clear HB0
  generalize W2.heap.size = M at HT0
  go_loopw [4] (fun j wx => ∃ (m : Nat) (va2 : Option Addr) (vc2 : Nat) (vs : List (List Value)), m ≤ cd.values.length ∧ j = .int .i64 m ∧ Hid (TA 64 7 [] 77 6 (id : List D → List D) w wx (caseC cd (.slice a1 cd.values.length c1) (.slice a2 cd.opn.length c2) (.slice a3 cd.done.length c3) (.slice a4 cd.acted.length c4)) caseZ (caseC cd (.slice va2 m vc2) (.slice a2 cd.opn.length c2) (.slice a3 cd.done.length c3) (.slice a4 cd.acted.length c4)) M va2 vc2 (cd.values.take m) vs)) (fun j _ => cd.values.length - (intOf j).toNat)
  case atStart => exact ⟨0, none, 0, [], Nat.zero_le _, rfl, HT0.out⟩
  case round =>
    clear HT0
    obtain ⟨m, va2, vc2, vs, hml, rfl, HT⟩ := hrel
    have k5 := HT.out.bx.cp 3 _ rfl
    by_cases hlt : m < cd.values.length
    · obtain ⟨rfl, -, hbl⟩ := HC.out.at0 (by omega)
      have hj1 := HJA.out _ (List.getElem_mem hlt)
      have hvl : m < vs0.length := by rw [HC.out.len]; exact hlt
      have hr := HC.out.row m hlt hvl
      obtain ⟨jk, jb, ji, jt, jn, je, ja, jc, ja2, jc2, -, hvs, -⟩ := IsJson.cells hj1 hr
      have HZ := Lib.hid (HT.out.call (Below.refl wr.heap.size wr).drew)
      have HJ := Lib.hid hj1
      have HML := Lib.hid hlt
      have HTL : Hid ((cd.values.take m).length = m) := by show _ = _; rw [List.length_take]; omega
      have HVA := Lib.hid HT.out.blk
      have HIH := Lib.hid (jsonTwin hj1 _ wr.drew (hr.grow HZ.out.bx.below))
      rw [hvs] at HIH
      have HP : Hid (∀ W, KpJ wr.drew W (w.heap.size + 1 + 1) va2 → W.cell? ⟨w.heap.size, 3, none⟩ = some (.slice (some ⟨b2, o2, none⟩) cd.values.length c1) ∧ W.cell? ⟨b2, o2 + m * 6, none⟩ = some (.int .u8 jk) ∧ W.cell? ⟨b2, o2 + m * 6 + 1, none⟩ = some (.bool jb) ∧ W.cell? ⟨b2, o2 + m * 6 + 2, none⟩ = some (.int .i64 ji) ∧
          W.cell? ⟨b2, o2 + m * 6 + 3, none⟩ = some (.string jt) ∧ W.cell? ⟨b2, o2 + m * 6 + 4, none⟩ = some (.slice ja jn.length jc) ∧ W.cell? ⟨b2, o2 + m * 6 + 5, none⟩ = some (.slice ja2 je.length jc2)) := by
        intro W hW
        have hlt2 := HZ.out.bx.lt
        have hbM := HZ.out.bM
        have hg : ∀ g, va2 = some ⟨g, 0, none⟩ → M ≤ g := fun g hg => (HZ.out.ac.own.lt hg).1
        have key : ∀ (q : Nat) u, vs0[m][q]? = some u → W.cell? ⟨b2, o2 + m * 6 + q, none⟩ = some u := fun q u hq => hW.cell (by omega) (by omega) (fun g hg2 => by have := hg g hg2; omega) (cellBelow2 HZ.out.bx.below (HC.out.cell m hvl q u hq))
        rw [hvs] at key
        exact ⟨hW.cell (by omega) (by omega) (fun g hg2 => by have := hg g hg2; omega) (HZ.out.bx.cp 3 _ rfl), key 0 _ rfl, key 1 _ rfl, key 2 _ rfl, key 3 _ rfl, key 4 _ rfl, key 5 _ rfl⟩
      have i1 : (0 : Int) ≤ (m : Int) := by omega
      have i2 : (m : Int) < (cd.values.length : Int) := by omega
      clear hj1 hr hvs hvl HC HJA hbl HM HO
      go_upto_region 6 with fail
      clear k5 HT
      have c5 := HZ.out.bx.cr 3 _ rfl
      refine wp_region_held_drew (S := (fun W => KpJ wr.drew W (w.heap.size + 1 + 1) va2)) (by kernel_rfl) (KpJ.refl _ _ _) (fun hH => ?_)
      generalize wr.drew = wz at HZ HIH HP c5 hH ⊢
      refine wpAnyH_take (i := 0) (oi := { dst := some 14, op := Op.fieldAddr 64 (Operand.tmp 3) 3, type := 0, pos := "ref.go:91", after := #[], guard := none }) (v := .pointer (some ⟨w.heap.size + 1 + 1, 3, none⟩)) rfl (by kernel_rfl) (by kernel_rfl) (by kernel_rfl) (fun _ _ _ h => h) (Or.inl ⟨by rfl, fun W hS => by go_simp⟩) hH ?_
      simp only [Act.put, List.setIfInBounds_toArray, List.set_cons_zero, List.set_cons_succ]
      refine wpAnyH_take (i := 2) (oi := { dst := some 16, op := Op.fieldAddr 64 (Operand.tmp 1) 3, type := 0, pos := "ref.go:91", after := #[], guard := none }) (v := .pointer (some ⟨w.heap.size, 3, none⟩)) rfl (by kernel_rfl) (by kernel_rfl) (by kernel_rfl) (fun _ _ _ h => h) (Or.inl ⟨by rfl, fun W hS => by go_simp⟩) hH ?_
      simp only [Act.put, List.setIfInBounds_toArray, List.set_cons_zero, List.set_cons_succ]
      refine wpAnyH_take (i := 3) (oi := { dst := some 17, op := Op.load 60 (Operand.tmp 16), type := 60, pos := "ref.go:91", after := #[{ on := 2, ground := Ground.data }], guard := none }) (v := .slice (some ⟨b2, o2, none⟩) cd.values.length c1) rfl (by kernel_rfl) (by kernel_rfl) (by kernel_rfl) (fun _ _ _ h => h) (Or.inl ⟨by rfl, fun W hS => by obtain ⟨p5, -⟩ := HP.out W hS; go_simp⟩) hH ?_
      simp only [Act.put, List.setIfInBounds_toArray, List.set_cons_zero, List.set_cons_succ]
      refine wpAnyH_take (i := 4) (oi := { dst := some 18, op := Op.move (Operand.tmp 4), type := 3, pos := "ref.go:91", after := #[], guard := none }) (v := .int .i64 m) rfl (by kernel_rfl) (by kernel_rfl) (by kernel_rfl) (fun _ _ _ h => h) (Or.inl ⟨by rfl, fun W hS => by go_simp⟩) hH ?_
      simp only [Act.put, List.setIfInBounds_toArray, List.set_cons_zero, List.set_cons_succ]
      refine wpAnyH_take (i := 5) (oi := { dst := some 19, op := Op.indexAddr 60 (Operand.tmp 17) (Operand.tmp 18), type := 0, pos := "ref.go:91", after := #[{ on := 3, ground := Ground.data }, { on := 4, ground := Ground.data }], guard := none }) (v := .pointer (some ⟨b2, o2 + m * 6, none⟩)) rfl (by kernel_rfl) (by kernel_rfl) (by kernel_rfl) (fun _ _ _ h => h) (Or.inl ⟨by rfl, fun W hS => by go_simp⟩) hH ?_
      simp only [Act.put, List.setIfInBounds_toArray, List.set_cons_zero, List.set_cons_succ]
      refine wpAnyH_take (i := 6) (oi := { dst := some 20, op := Op.load 77 (Operand.tmp 19), type := 77, pos := "ref.go:91", after := #[{ on := 5, ground := Ground.data }], guard := none }) (v := .agg #[.int .u8 jk, .bool jb, .int .i64 ji, .string jt, .slice ja jn.length jc, .slice ja2 je.length jc2]) rfl (by kernel_rfl) (by kernel_rfl) (by kernel_rfl) (fun _ _ _ h => h) (Or.inl ⟨by rfl, fun W hS => by obtain ⟨-, e0, e1, e2, e3, e4, e5⟩ := HP.out W hS; go_simp⟩) hH ?_
      simp only [Act.put, List.setIfInBounds_toArray, List.set_cons_zero, List.set_cons_succ]
      refine wpAnyH_ready (rs := [1, 7]) (by kernel_rfl) (by simp) ?_
      refine AllReadyH.cons (o := { dst := some 15, op := Op.load 60 (Operand.tmp 14), type := 60, pos := "ref.go:91", after := #[{ on := 0, ground := Ground.data }], guard := none }) rfl (fun K hK => ?_) (AllReadyH.cons (o := { dst := some 21, op := Op.call { callee := Callee.value (Operand.func 74), args := #[Operand.tmp 20], argTypes := #[77] }, type := 77, pos := "ref.go:91", after := #[{ on := 6, ground := Ground.data }], guard := none }) rfl (fun K hK => ?_) AllReadyH.nil)
      · go_simp
        refine hK.out _ _ hH (fun hH => ?_)
        clear hK K
        try simp only [Act.put, List.setIfInBounds_toArray, List.set_cons_zero, List.set_cons_succ]
        refine wpAnyH_ready (rs := [7]) (by kernel_rfl) (by simp) ?_
        refine AllReadyH.cons (o := { dst := some 21, op := Op.call { callee := Callee.value (Operand.func 74), args := #[Operand.tmp 20], argTypes := #[77] }, type := 77, pos := "ref.go:91", after := #[{ on := 6, ground := Ground.data }], guard := none }) rfl (fun K hK => ?_) AllReadyH.nil
        go_simp
        go_at_call 74
        refine HIH.out.mono ?_
        rintro e W' ⟨us, rfl, hm', hb'⟩
        obtain ⟨xk, xb, xi, xt, xn, xe, xa, xc, xa2, xc2, -, hus, -⟩ := IsJson.cells HJ.out hm'
        have hul : us.length = 6 := by rw [hm'.1, HJ.out.len]
        subst hus
        obtain ⟨g', vc', W8, hap, hJT8, hg8⟩ := HZ.out.push elemJson 60 hb' hul HJ.out.len hm' (fun u hu => by simp only [List.mem_cons, List.not_mem_nil, or_false] at hu; rcases hu with rfl | rfl | rfl | rfl | rfl | rfl <;> rfl) (by rw [HTL.out]; have := HLE.out; have := HML.out; unfold maxLen; omega) (by rw [HTL.out]; have := HLE.out; have := HML.out; omega)
        rw [HTL.out] at hap
        have hJT8 := TA.took HML.out hJT8
        have HAP := Lib.hid hap
        have HJ8 := Lib.hid hJT8
        have HG8 := Lib.hid hg8
        have c5' := (HZ.out.call hb').bx.cr 3 _ rfl
        have c8 := hJT8.bx.cr 3 _ rfl
        have f8 := hJT8.bx.fr 3
        have HB' := Lib.hid hb'
        clear hm' hb' hap hJT8 hg8 hul
        go_wp2_with fail
        refine hK.out _ _ (KpJ.call hH HB'.out) (fun hH => ?_)
        clear hK K
        try simp only [Act.put, List.setIfInBounds_toArray, List.set_cons_zero, List.set_cons_succ]
        refine wpAnyH_ready (rs := [8]) (by kernel_rfl) (by simp) ?_
        refine AllReadyH.cons (o := { dst := some 22, op := Op.buildSlice 60 1 #[(0, Operand.tmp 21)], type := 60, pos := "ref.go:91", after := #[{ on := 7, ground := Ground.data }], guard := none }) rfl (fun K hK => ?_) AllReadyH.nil
        go_simp
        refine hK.out _ _ (KpJ.call hH ((Below.refl _ _).alloc (Nat.le_refl _) _)) (fun hH => ?_)
        clear hK K
        try simp only [Act.put, List.setIfInBounds_toArray, List.set_cons_zero, List.set_cons_succ]
        have c5a := ((HZ.out.call HB'.out).call ((Below.refl _ _).alloc (Nat.le_refl _) (.cells #[.int .u8 xk, .bool xb, .int .i64 xi, .string xt, .slice xa xn.length xc, .slice xa2 xe.length xc2] 77))).bx.cr 3 _ rfl
        refine wpAnyH_ready (rs := [9]) (by kernel_rfl) (by simp) ?_
        refine AllReadyH.cons (o := { dst := some 23, op := Op.call { callee := Callee.builtin Builtin.append, args := #[Operand.tmp 15, Operand.tmp 22], argTypes := #[60, 60] }, type := 60, pos := "ref.go:91", after := #[{ on := 1, ground := Ground.data }, { on := 8, ground := Ground.data }, { on := 7, ground := Ground.chain }], guard := none }) rfl (fun K hK => ?_) AllReadyH.nil
        refine step_append_run (by rfl) (.tmp 15) (.tmp 22) 60 (by rfl) (by rfl) (by rfl) HAP.out ?_
        refine hK.out _ _ (KpJ.grown hH HG8.out HVA.out) (fun hH => ?_)
        clear hK K
        try simp only [Act.put, List.setIfInBounds_toArray, List.set_cons_zero, List.set_cons_succ]
        refine wpAnyH_take (i := 10) (oi := { dst := some 24, op := Op.fieldAddr 64 (Operand.tmp 3) 3, type := 0, pos := "ref.go:91", after := #[{ on := 0, ground := Ground.phase }, { on := 1, ground := Ground.phase }, { on := 2, ground := Ground.phase }, { on := 3, ground := Ground.phase }, { on := 4, ground := Ground.phase }, { on := 5, ground := Ground.phase }, { on := 6, ground := Ground.phase }, { on := 7, ground := Ground.phase }, { on := 8, ground := Ground.phase }, { on := 9, ground := Ground.phase }], guard := none }) (v := .pointer (some ⟨w.heap.size + 1 + 1, 3, none⟩)) rfl (by kernel_rfl) (by kernel_rfl) (by kernel_rfl) (fun _ _ _ h => h) (Or.inl ⟨by rfl, fun W hS => by go_simp⟩) hH ?_
        simp only [Act.put, List.setIfInBounds_toArray, List.set_cons_zero, List.set_cons_succ]
        refine wpAnyH_ready (rs := [11]) (by kernel_rfl) (by simp) ?_
        refine AllReadyH.cons (o := { dst := none, op := Op.store 60 (Operand.tmp 24) (Operand.tmp 23), type := 0, pos := "ref.go:91", after := #[{ on := 10, ground := Ground.data }, { on := 9, ground := Ground.data }, { on := 9, ground := Ground.chain }, { on := 0, ground := Ground.phase }, { on := 1, ground := Ground.phase }, { on := 2, ground := Ground.phase }, { on := 3, ground := Ground.phase }, { on := 4, ground := Ground.phase }, { on := 5, ground := Ground.phase }, { on := 6, ground := Ground.phase }, { on := 7, ground := Ground.phase }, { on := 8, ground := Ground.phase }, { on := 9, ground := Ground.phase }], guard := none }) rfl (fun K hK => ?_) AllReadyH.nil
        go_simp
        refine hK.out _ _ (KpJ.set hH _ _) (fun hH => ?_)
        clear hK K
        try simp only [Act.put, List.setIfInBounds_toArray, List.set_cons_zero, List.set_cons_succ]
        refine wpAnyH_done (by kernel_rfl) ?_ _
        have wr1 : IntKind.i64.wrap ((m : Int) + 1) = (m : Int) + 1 := wrap_i64 (by omega) (by have := HLE.out; have := HML.out; omega)
        go_wp2_with fail
        have H9 := Lib.hid (HJ8.out.setR 3 (.slice (some ⟨g', 0, none⟩) (m + 1) vc'))
        go_roundw
        case rel => exact ⟨m + 1, _, _, _, by omega, by go_num, H9⟩
        case measure => simp [intOf]; omega
      · go_simp
        go_at_call 74
        refine HIH.out.mono ?_
        rintro e W' ⟨us, rfl, hm', hb'⟩
        obtain ⟨xk, xb, xi, xt, xn, xe, xa, xc, xa2, xc2, -, hus, -⟩ := IsJson.cells HJ.out hm'
        have hul : us.length = 6 := by rw [hm'.1, HJ.out.len]
        subst hus
        obtain ⟨g', vc', W8, hap, hJT8, hg8⟩ := HZ.out.push elemJson 60 hb' hul HJ.out.len hm' (fun u hu => by simp only [List.mem_cons, List.not_mem_nil, or_false] at hu; rcases hu with rfl | rfl | rfl | rfl | rfl | rfl <;> rfl) (by rw [HTL.out]; have := HLE.out; have := HML.out; unfold maxLen; omega) (by rw [HTL.out]; have := HLE.out; have := HML.out; omega)
        rw [HTL.out] at hap
        have hJT8 := TA.took HML.out hJT8
        have HAP := Lib.hid hap
        have HJ8 := Lib.hid hJT8
        have HG8 := Lib.hid hg8
        have c5' := (HZ.out.call hb').bx.cr 3 _ rfl
        have c8 := hJT8.bx.cr 3 _ rfl
        have f8 := hJT8.bx.fr 3
        have HB' := Lib.hid hb'
        clear hm' hb' hap hJT8 hg8 hul
        go_wp2_with fail
        refine hK.out _ _ (KpJ.call hH HB'.out) (fun hH => ?_)
        clear hK K
        try simp only [Act.put, List.setIfInBounds_toArray, List.set_cons_zero, List.set_cons_succ]
        refine wpAnyH_ready (rs := [1, 8]) (by kernel_rfl) (by simp) ?_
        refine AllReadyH.cons (o := { dst := some 15, op := Op.load 60 (Operand.tmp 14), type := 60, pos := "ref.go:91", after := #[{ on := 0, ground := Ground.data }], guard := none }) rfl (fun K hK => ?_) (AllReadyH.cons (o := { dst := some 22, op := Op.buildSlice 60 1 #[(0, Operand.tmp 21)], type := 60, pos := "ref.go:91", after := #[{ on := 7, ground := Ground.data }], guard := none }) rfl (fun K hK => ?_) AllReadyH.nil)
        · go_simp
          refine hK.out _ _ hH (fun hH => ?_)
          clear hK K
          try simp only [Act.put, List.setIfInBounds_toArray, List.set_cons_zero, List.set_cons_succ]
          refine wpAnyH_ready (rs := [8]) (by kernel_rfl) (by simp) ?_
          refine AllReadyH.cons (o := { dst := some 22, op := Op.buildSlice 60 1 #[(0, Operand.tmp 21)], type := 60, pos := "ref.go:91", after := #[{ on := 7, ground := Ground.data }], guard := none }) rfl (fun K hK => ?_) AllReadyH.nil
          go_simp
          refine hK.out _ _ (KpJ.call hH ((Below.refl _ _).alloc (Nat.le_refl _) _)) (fun hH => ?_)
          clear hK K
          try simp only [Act.put, List.setIfInBounds_toArray, List.set_cons_zero, List.set_cons_succ]
          have c5a := ((HZ.out.call HB'.out).call ((Below.refl _ _).alloc (Nat.le_refl _) (.cells #[.int .u8 xk, .bool xb, .int .i64 xi, .string xt, .slice xa xn.length xc, .slice xa2 xe.length xc2] 77))).bx.cr 3 _ rfl
          refine wpAnyH_ready (rs := [9]) (by kernel_rfl) (by simp) ?_
          refine AllReadyH.cons (o := { dst := some 23, op := Op.call { callee := Callee.builtin Builtin.append, args := #[Operand.tmp 15, Operand.tmp 22], argTypes := #[60, 60] }, type := 60, pos := "ref.go:91", after := #[{ on := 1, ground := Ground.data }, { on := 8, ground := Ground.data }, { on := 7, ground := Ground.chain }], guard := none }) rfl (fun K hK => ?_) AllReadyH.nil
          refine step_append_run (by rfl) (.tmp 15) (.tmp 22) 60 (by rfl) (by rfl) (by rfl) HAP.out ?_
          refine hK.out _ _ (KpJ.grown hH HG8.out HVA.out) (fun hH => ?_)
          clear hK K
          try simp only [Act.put, List.setIfInBounds_toArray, List.set_cons_zero, List.set_cons_succ]
          refine wpAnyH_take (i := 10) (oi := { dst := some 24, op := Op.fieldAddr 64 (Operand.tmp 3) 3, type := 0, pos := "ref.go:91", after := #[{ on := 0, ground := Ground.phase }, { on := 1, ground := Ground.phase }, { on := 2, ground := Ground.phase }, { on := 3, ground := Ground.phase }, { on := 4, ground := Ground.phase }, { on := 5, ground := Ground.phase }, { on := 6, ground := Ground.phase }, { on := 7, ground := Ground.phase }, { on := 8, ground := Ground.phase }, { on := 9, ground := Ground.phase }], guard := none }) (v := .pointer (some ⟨w.heap.size + 1 + 1, 3, none⟩)) rfl (by kernel_rfl) (by kernel_rfl) (by kernel_rfl) (fun _ _ _ h => h) (Or.inl ⟨by rfl, fun W hS => by go_simp⟩) hH ?_
          simp only [Act.put, List.setIfInBounds_toArray, List.set_cons_zero, List.set_cons_succ]
          refine wpAnyH_ready (rs := [11]) (by kernel_rfl) (by simp) ?_
          refine AllReadyH.cons (o := { dst := none, op := Op.store 60 (Operand.tmp 24) (Operand.tmp 23), type := 0, pos := "ref.go:91", after := #[{ on := 10, ground := Ground.data }, { on := 9, ground := Ground.data }, { on := 9, ground := Ground.chain }, { on := 0, ground := Ground.phase }, { on := 1, ground := Ground.phase }, { on := 2, ground := Ground.phase }, { on := 3, ground := Ground.phase }, { on := 4, ground := Ground.phase }, { on := 5, ground := Ground.phase }, { on := 6, ground := Ground.phase }, { on := 7, ground := Ground.phase }, { on := 8, ground := Ground.phase }, { on := 9, ground := Ground.phase }], guard := none }) rfl (fun K hK => ?_) AllReadyH.nil
          go_simp
          refine hK.out _ _ (KpJ.set hH _ _) (fun hH => ?_)
          clear hK K
          try simp only [Act.put, List.setIfInBounds_toArray, List.set_cons_zero, List.set_cons_succ]
          refine wpAnyH_done (by kernel_rfl) ?_ _
          have wr1 : IntKind.i64.wrap ((m : Int) + 1) = (m : Int) + 1 := wrap_i64 (by omega) (by have := HLE.out; have := HML.out; omega)
          go_wp2_with fail
          have H9 := Lib.hid (HJ8.out.setR 3 (.slice (some ⟨g', 0, none⟩) (m + 1) vc'))
          go_roundw
          case rel => exact ⟨m + 1, _, _, _, by omega, by go_num, H9⟩
          case measure => simp [intOf]; omega
        · go_simp
          refine hK.out _ _ (KpJ.call hH ((Below.refl _ _).alloc (Nat.le_refl _) _)) (fun hH => ?_)
          clear hK K
          try simp only [Act.put, List.setIfInBounds_toArray, List.set_cons_zero, List.set_cons_succ]
          have c5a := ((HZ.out.call HB'.out).call ((Below.refl _ _).alloc (Nat.le_refl _) (.cells #[.int .u8 xk, .bool xb, .int .i64 xi, .string xt, .slice xa xn.length xc, .slice xa2 xe.length xc2] 77))).bx.cr 3 _ rfl
          refine wpAnyH_ready (rs := [1]) (by kernel_rfl) (by simp) ?_
          refine AllReadyH.cons (o := { dst := some 15, op := Op.load 60 (Operand.tmp 14), type := 60, pos := "ref.go:91", after := #[{ on := 0, ground := Ground.data }], guard := none }) rfl (fun K hK => ?_) AllReadyH.nil
          go_simp
          refine hK.out _ _ hH (fun hH => ?_)
          clear hK K
          try simp only [Act.put, List.setIfInBounds_toArray, List.set_cons_zero, List.set_cons_succ]
          refine wpAnyH_ready (rs := [9]) (by kernel_rfl) (by simp) ?_
          refine AllReadyH.cons (o := { dst := some 23, op := Op.call { callee := Callee.builtin Builtin.append, args := #[Operand.tmp 15, Operand.tmp 22], argTypes := #[60, 60] }, type := 60, pos := "ref.go:91", after := #[{ on := 1, ground := Ground.data }, { on := 8, ground := Ground.data }, { on := 7, ground := Ground.chain }], guard := none }) rfl (fun K hK => ?_) AllReadyH.nil
          refine step_append_run (by rfl) (.tmp 15) (.tmp 22) 60 (by rfl) (by rfl) (by rfl) HAP.out ?_
          refine hK.out _ _ (KpJ.grown hH HG8.out HVA.out) (fun hH => ?_)
          clear hK K
          try simp only [Act.put, List.setIfInBounds_toArray, List.set_cons_zero, List.set_cons_succ]
          refine wpAnyH_take (i := 10) (oi := { dst := some 24, op := Op.fieldAddr 64 (Operand.tmp 3) 3, type := 0, pos := "ref.go:91", after := #[{ on := 0, ground := Ground.phase }, { on := 1, ground := Ground.phase }, { on := 2, ground := Ground.phase }, { on := 3, ground := Ground.phase }, { on := 4, ground := Ground.phase }, { on := 5, ground := Ground.phase }, { on := 6, ground := Ground.phase }, { on := 7, ground := Ground.phase }, { on := 8, ground := Ground.phase }, { on := 9, ground := Ground.phase }], guard := none }) (v := .pointer (some ⟨w.heap.size + 1 + 1, 3, none⟩)) rfl (by kernel_rfl) (by kernel_rfl) (by kernel_rfl) (fun _ _ _ h => h) (Or.inl ⟨by rfl, fun W hS => by go_simp⟩) hH ?_
          simp only [Act.put, List.setIfInBounds_toArray, List.set_cons_zero, List.set_cons_succ]
          refine wpAnyH_ready (rs := [11]) (by kernel_rfl) (by simp) ?_
          refine AllReadyH.cons (o := { dst := none, op := Op.store 60 (Operand.tmp 24) (Operand.tmp 23), type := 0, pos := "ref.go:91", after := #[{ on := 10, ground := Ground.data }, { on := 9, ground := Ground.data }, { on := 9, ground := Ground.chain }, { on := 0, ground := Ground.phase }, { on := 1, ground := Ground.phase }, { on := 2, ground := Ground.phase }, { on := 3, ground := Ground.phase }, { on := 4, ground := Ground.phase }, { on := 5, ground := Ground.phase }, { on := 6, ground := Ground.phase }, { on := 7, ground := Ground.phase }, { on := 8, ground := Ground.phase }, { on := 9, ground := Ground.phase }], guard := none }) rfl (fun K hK => ?_) AllReadyH.nil
          go_simp
          refine hK.out _ _ (KpJ.set hH _ _) (fun hH => ?_)
          clear hK K
          try simp only [Act.put, List.setIfInBounds_toArray, List.set_cons_zero, List.set_cons_succ]
          refine wpAnyH_done (by kernel_rfl) ?_ _
          have wr1 : IntKind.i64.wrap ((m : Int) + 1) = (m : Int) + 1 := wrap_i64 (by omega) (by have := HLE.out; have := HML.out; omega)
          go_wp2_with fail
          have H9 := Lib.hid (HJ8.out.setR 3 (.slice (some ⟨g', 0, none⟩) (m + 1) vc'))
          go_roundw
          case rel => exact ⟨m + 1, _, _, _, by omega, by go_num, H9⟩
          case measure => simp [intOf]; omega
    · have hme : m = cd.values.length := by omega
      subst hme
      have i1 : ¬ (cd.values.length : Int) < (cd.values.length : Int) := by omega
      clear HC HJA
      have hd1 := HT.out.done (by omega)
      rw [List.take_of_length_le (Nat.le_refl _), List.map_id] at hd1
      have HT1 := Lib.hid hd1
      clear HT hd1
      have f4 := HT1.out.bx.fr 4
      have c4 := HT1.out.bx.cr 4 _ rfl
      go_upto_region 8 with fail
      have HTa := Lib.hid (HT1.out.setR 4 (.slice none 0 0))
      clear HT1 f4 c4
      revert HTa
      generalize wr.setCell ⟨w.heap.size + 2, 4, none⟩ (.slice none 0 0) = Y1
      intro HTa
      obtain ⟨va4, vc4, w4, hap, hm, hb, -⟩ := flat_app elemBool 61 (HM.out.op.grow HTa.out.bx.below) (fun _ => rfl) (fun x u hu => by rw [boolC, List.mem_singleton] at hu; rw [hu]; rfl) (by have := HO.out.ol; unfold maxLen; omega) (by have := HO.out.ol; omega)
      have HAP := Lib.hid hap
      have HT2 := Lib.hid ((HTa.out.made hb hm).setR 4 (.slice va4 cd.opn.length vc4))
      have k4 := HTa.out.bx.cp 4 _ rfl
      have c4 := HTa.out.bx.cr 4 _ rfl
      have c4' := (HTa.out.bx.call hb).cr 4 _ rfl
      have f4 := (HTa.out.bx.call hb).fr 4
      clear hap hm hb HTa
      go_upto_region 9 with (at_builtin; refine wpList_append_run rfl (.tmp 27) (.tmp 29) 61 rfl rfl rfl HAP.out ?_)
      clear HAP k4 c4 c4' f4
      revert HT2
      generalize w4.setCell ⟨w.heap.size + 2, 4, none⟩ _ = X2
      intro HT2
      have f5 := HT2.out.bx.fr 5
      have c5 := HT2.out.bx.cr 5 _ rfl
      go_upto_region 10 with fail
      have HTa := Lib.hid (HT2.out.setR 5 (.slice none 0 0))
      clear HT2 f5 c5
      revert HTa
      generalize X2.setCell ⟨w.heap.size + 2, 5, none⟩ (.slice none 0 0) = Y2
      intro HTa
      obtain ⟨va5, vc5, w5, hap, hm, hb, -⟩ := flat_app elemBool 61 (HM.out.d.grow HTa.out.bx.below) (fun _ => rfl) (fun x u hu => by rw [boolC, List.mem_singleton] at hu; rw [hu]; rfl) (by have := HO.out.dl; unfold maxLen; omega) (by have := HO.out.dl; omega)
      have HAP := Lib.hid hap
      have HT3 := Lib.hid ((HTa.out.made hb hm).setR 5 (.slice va5 cd.done.length vc5))
      have k5 := HTa.out.bx.cp 5 _ rfl
      have c5 := HTa.out.bx.cr 5 _ rfl
      have c5' := (HTa.out.bx.call hb).cr 5 _ rfl
      have f5 := (HTa.out.bx.call hb).fr 5
      clear hap hm hb HTa
      go_upto_region 11 with (at_builtin; refine wpList_append_run rfl (.tmp 34) (.tmp 36) 61 rfl rfl rfl HAP.out ?_)
      clear HAP k5 c5 c5' f5
      revert HT3
      generalize w5.setCell ⟨w.heap.size + 2, 5, none⟩ _ = X3
      intro HT3
      have f6 := HT3.out.bx.fr 6
      have c6 := HT3.out.bx.cr 6 _ rfl
      go_upto_region 12 with fail
      have HTa := Lib.hid (HT3.out.setR 6 (.slice none 0 0))
      clear HT3 f6 c6
      revert HTa
      generalize X3.setCell ⟨w.heap.size + 2, 6, none⟩ (.slice none 0 0) = Y3
      intro HTa
      obtain ⟨va6, vc6, w6, hap, hm, hb, -⟩ := flat_app elemActed 62 (HM.out.a.grow HTa.out.bx.below) (fun _ => rfl) (fun x u hu => by simp only [pairC, List.mem_cons, List.not_mem_nil, or_false] at hu; rcases hu with rfl | rfl <;> rfl) (by have := HO.out.al; unfold maxLen; omega) (by have := HO.out.al; omega)
      have HAP := Lib.hid hap
      have HT4 := Lib.hid ((HTa.out.made hb hm).setR 6 (.slice va6 cd.acted.length vc6))
      have k6 := HTa.out.bx.cp 6 _ rfl
      have c6 := HTa.out.bx.cr 6 _ rfl
      have c6' := (HTa.out.bx.call hb).cr 6 _ rfl
      have f6 := (HTa.out.bx.call hb).fr 6
      clear hap hm hb HTa
      go_upto_region 13 with (at_builtin; refine wpList_append_run rfl (.tmp 41) (.tmp 43) 62 rfl rfl rfl HAP.out ?_)
      clear HAP k6 c6 c6' f6
      revert HT4
      generalize w6.setCell ⟨w.heap.size + 2, 6, none⟩ _ = X4
      intro HT4
      have r0 := HT4.out.bx.cr 0 _ rfl
      have r1 := HT4.out.bx.cr 1 _ rfl
      have r2 := HT4.out.bx.cr 2 _ rfl
      have r3 := HT4.out.bx.cr 3 _ rfl
      have r4 := HT4.out.bx.cr 4 _ rfl
      have r5 := HT4.out.bx.cr 5 _ rfl
      have r6 := HT4.out.bx.cr 6 _ rfl
      have q0 := HT4.out.bx.cq 0 _ rfl
      have q1 := HT4.out.bx.cq 1 _ rfl
      have q2 := HT4.out.bx.cq 2 _ rfl
      have q3 := HT4.out.bx.cq 3 _ rfl
      have q4 := HT4.out.bx.cq 4 _ rfl
      have q5 := HT4.out.bx.cq 5 _ rfl
      have q6 := HT4.out.bx.cq 6 _ rfl
      have hf := HT4.out.bx.fq
      go_wp2_with fail
      have h7 := ((((((HT4.out.setQ 0 (.int .i64 cd.id)).setQ 1 (.string cd.model)).setQ 2 (.int .i64 cd.version)).setQ 3 (.slice va2 cd.values.length vc2)).setQ 4 (.slice va4 cd.opn.length vc4)).setQ 5 (.slice va5 cd.done.length vc5)).setQ 6 (.slice va6 cd.acted.length vc6)
      have hfr : ∀ p ∈ [((flatL 2 pairC cd.acted), (.slice va6 cd.acted.length vc6)), ((flatL 1 boolC cd.done), (.slice va5 cd.done.length vc5)), ((flatL 1 boolC cd.opn), (.slice va4 cd.opn.length vc4)), ((.list 6 cd.values : D), (.slice va2 cd.values.length vc2 : Value))], Mem true (From w.heap.size) _ p.1 p.2 := fun p hp => (h7.ms p hp).weak fun b hb _ => by have : w.heap.size + 3 ≤ b := hb; show w.heap.size ≤ b; omega
      exact ret_ctwin (c := cd) (v1 := .slice va2 cd.values.length vc2) (v2 := .slice va4 cd.opn.length vc4) (v3 := .slice va5 cd.done.length vc5) (v4 := .slice va6 cd.acted.length vc6) h7.bx rfl rfl (HDS.out _ _ (caseM_ds ⟨hfr (.list 6 cd.values, .slice va2 cd.values.length vc2) (by simp), hfr (flatL 1 boolC cd.opn, .slice va4 cd.opn.length vc4) (by simp), hfr (flatL 1 boolC cd.done, .slice va5 cd.done.length vc5) (by simp), hfr (flatL 2 pairC cd.acted, .slice va6 cd.acted.length vc6) (by simp)⟩) h7.bx.below)
end Go.Proofs.YtinijohmdljieaaGreatDoor
