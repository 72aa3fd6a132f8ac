/- docketref16.Twin: the walk. -/
import Derived.Test.YtinijohmdljieaaGreatDoorH08
import Derived.Deep.RegionHeld3
namespace Go.Proofs.YtinijohmdljieaaGreatDoor
open Go.RowKit

theorem ret_jtwin {w W : World} {a : Act} {x z : List Value} {k : Int} {b : Bool} {i : Int} {t : ByteArray} {u v : Value} {R : Ending → World → Prop} (h : B3 77 6 w W x (jsonC k b i t u v) z) (hp : a.tmps.getD 2 undef = .pointer (some ⟨w.heap.size + 1, 0, none⟩)) (hd : a.defers = [])
    (hR : R (.returned (.agg (jsonC k b i t u v).toArray)) W) : bodyPost Tryz.prog Tryz.f74 R .ret a W := by
  refine bodyPost_ret ?_ hd hR
  have hp' : a.tmps[2]?.getD undef = .pointer (some ⟨w.heap.size + 1, 0, none⟩) := by simpa using hp
  simp [results, Tryz.results74, hp', go_sem, h.cq 0 _ rfl, h.cq 1 _ rfl, h.cq 2 _ rfl, h.cq 3 _ rfl, h.cq 4 _ rfl, h.cq 5 _ rfl]
theorem json_open {o : Bool} {P : Nat → Prop} {w : World} {us : List Value} {k : Int} {b : Bool} {i : Int} {t : ByteArray} {names : List ByteArray} {es : List (List D)} (hm : MemL o P w [.atom (.int .u8 k), .atom (.bool b), .atom (.int .i64 i), .atom (.string t), strD names, .list 6 es] us) :
    ∃ a c a2 c2 b2 o2 vs0, us = jsonC k b i t (.slice a names.length c) (.slice a2 es.length c2) ∧ Mem o P w (strD names) (.slice a names.length c) ∧ ListC o P w 6 es a2 b2 o2 vs0 := by
  obtain ⟨x0, y0, rfl, h0, h⟩ := MemL.inv hm
  obtain ⟨x1, y1, rfl, h1, h⟩ := h.inv
  obtain ⟨x2, y2, rfl, h2, h⟩ := h.inv
  obtain ⟨x3, y3, rfl, h3, h⟩ := h.inv
  obtain ⟨x4, y4, rfl, h4, h⟩ := h.inv
  obtain ⟨x5, y5, rfl, h5, h⟩ := h.inv
  obtain rfl := h.inv0
  obtain ⟨a, c, _, _, rfl, -, -⟩ := flat_open h4
  obtain ⟨a2, c2, b2, o2, vs0, rfl, -, hC⟩ := h5.listInv
  exact ⟨a, c, a2, c2, b2, o2, vs0, by rw [h0.atomInv, h1.atomInv, h2.atomInv, h3.atomInv], h4, hC⟩
def JEnd (ds : List D) (w : World) (e : Ending) (w' : World) : Prop := ∃ us, e = .returned (.agg us.toArray) ∧ MemL true (From w.heap.size) w' ds us ∧ Below w.heap.size w w'
theorem JT.start {names : List ByteArray} (es : List (List D)) {w W2 w6 : World} {x y : List Value} {z : List Value} {va : Option Addr} {vc : Nat} (h : B3 77 6 w W2 x y z) (hz : W2.heap.size = w.heap.size + 3) (hb : Below W2.heap.size W2 w6) (hn : Mem true (From W2.heap.size) w6 (strD names) (.slice va names.length vc)) (u v : Value) :
    JT names es w ((w6.setCell ⟨w.heap.size + 2, 4, none⟩ u).setCell ⟨w.heap.size + 2, 5, none⟩ v) x y ((z.set 4 u).set 5 v) va vc w6.heap.size 0 none 0 [] := by
  have hbs := hb.size
  have h6 : JT names es w w6 x y z va vc w6.heap.size 0 none 0 [] := ⟨h.call hb, hn.weak fun b hb2 hl => ⟨by have : W2.heap.size ≤ b := hb2; omega, hl⟩, Acc.start _ _ _ _ _, by omega, Nat.le_refl _⟩
  exact (h6.setR 4 u).setR 5 v
set_option maxHeartbeats 8000000 in
set_option maxRecDepth 100000 in
theorem jsonTwin {ds : List D} (h : IsJson ds) : ∀ (us : List Value) (w : World), MemL false (From 0) w ds us → Calls Tryz.prog 74 #[.agg us.toArray] w (JEnd ds w) := by
  induction h with
  | mk k b i t names es hn he hj ih =>
    intro us w hm
    obtain ⟨a, c, a2, c2, b2, o2, vs0, rfl, hnm, hC⟩ := json_open hm
    have HN := Lib.hid hnm
    have HC := Lib.hid hC
    have HJA := Lib.hid hj
    have HIA := Lib.hid ih
    have HNL := Lib.hid hn
    have HLE := Lib.hid he
    have HDS : Hid (∀ W us, MemL true (From w.heap.size) W [.atom (.int .u8 k), .atom (.bool b), .atom (.int .i64 i), .atom (.string t), strD names, .list 6 es] us → Below w.heap.size w W → JEnd [.atom (.int .u8 k), .atom (.bool b), .atom (.int .i64 i), .atom (.string t), strD names, .list 6 es] w (.returned (.agg us.toArray)) W) := fun W us h1 h2 => ⟨us, rfl, h1, h2⟩
    generalize JEnd [.atom (.int .u8 k), .atom (.bool b), .atom (.int .i64 i), .atom (.string t), strD names, .list 6 es] w = R at HDS ⊢
    have HB0 := Lib.hid (B3.start w 77 6 #[.int .u8 k, .bool b, .int .i64 i, .string t, .slice a names.length c, .slice a2 es.length c2] #[.int .u8 0, .bool false, .int .i64 0, .string ⟨#[]⟩, .slice none 0 0, .slice none 0 0] #[.int .u8 k, .bool b, .int .i64 i, .string t, .slice none 0 0, .slice a2 es.length c2] rfl rfl rfl)
    have HZ2 : Hid ((((w.alloc (.cells #[.int .u8 k, .bool b, .int .i64 i, .string t, .slice a names.length c, .slice a2 es.length c2] 77)).alloc (.cells #[.int .u8 0, .bool false, .int .i64 0, .string ⟨#[]⟩, .slice none 0 0, .slice none 0 0] 77)).alloc (.cells #[.int .u8 k, .bool b, .int .i64 i, .string t, .slice none 0 0, .slice a2 es.length c2] 77)).heap.size = w.heap.size + 3) := by show _ = _; simp
    clear hm hnm hC hj ih hn he
    go_enter Tryz.func74, Tryz.ntmps74
    go_upto_region 3 with fail
    revert HB0 HZ2
    generalize (((w.alloc (.cells #[.int .u8 k, .bool b, .int .i64 i, .string t, .slice a names.length c, .slice a2 es.length c2] 77)).alloc (.cells #[.int .u8 0, .bool false, .int .i64 0, .string ⟨#[]⟩, .slice none 0 0, .slice none 0 0] 77)).alloc (.cells #[.int .u8 k, .bool b, .int .i64 i, .string t, .slice none 0 0, .slice a2 es.length c2] 77)) = W2
    intro HB0 HZ2
    obtain ⟨va, vc, w6, hap, hm6, hb6, -⟩ := flat_app elemStr 23 (HN.out.grow HB0.out.below) (fun _ => rfl) (fun x u hu => by rw [List.mem_singleton] at hu; rw [hu]; rfl) (by have := HNL.out; unfold maxLen; omega) (by have := HNL.out; omega)
    have HAP := Lib.hid hap
    have HT0 := Lib.hid (JT.start es HB0.out HZ2.out hb6 hm6 (.slice va names.length vc) (.slice none 0 0))
    have k4 := HB0.out.cp 4 _ rfl
    have c4 := HB0.out.cr 4 _ rfl
    have c4' := (HB0.out.call hb6).cr 4 _ rfl
    have f4 := (HB0.out.call hb6).fr 4
    have c5 := (HB0.out.call hb6).cr 5 _ rfl
    have f5 := (HB0.out.call hb6).fr 5
    clear hap hm6 hb6 HB0 HZ2 HN
    go_wp2_with (at_builtin; refine wpList_append_run rfl (.tmp 8) (.tmp 10) 23 rfl rfl rfl HAP.out ?_)
    clear HAP k4 c4 c4' f4 c5 f5
    generalize w6.heap.size = M at HT0
    go_loopw [4] (fun j wx => ∃ (m : Nat) (va2 : Option Addr) (vc2 : Nat) (vs : List (List Value)), m ≤ es.length ∧ j = .int .i64 m ∧ Hid (JT names es w wx (jsonC k b i t (.slice a names.length c) (.slice a2 es.length c2)) jsonZ (jsonC k b i t (.slice va names.length vc) (.slice va2 m vc2)) va vc M m va2 vc2 vs)) (fun j _ => es.length - (intOf j).toNat)
    case atStart => exact ⟨0, none, 0, [], Nat.zero_le _, rfl, HT0.out⟩
    case round =>
      clear HT0
      obtain ⟨m, va2, vc2, vs, hml, rfl, HT⟩ := hrel
      have k5 := HT.out.bx.cp 5 _ rfl
      by_cases hlt : m < es.length
      · obtain ⟨rfl, -, hbl⟩ := HC.out.at0 (by omega)
        have hj1 := HJA.out _ (List.getElem_mem hlt)
        have hvl : m < vs0.length := by rw [HC.out.len]; exact hlt
        have hr := HC.out.row m hlt hvl
        obtain ⟨jk, jb, ji, jt, jn, je, ja, jc, ja2, jc2, -, hvs, -⟩ := IsJson.cells hj1 hr
        have HZ := Lib.hid (HT.out.call (Below.refl wr.heap.size wr).drew)
        have HJ := Lib.hid hj1
        have HML := Lib.hid hlt
        have HVA : Hid (∀ q, blockOf va2 = some q → va2 = some ⟨q, 0, none⟩) := by
          intro q hq
          rcases HT.out.ac.own.block with ⟨rfl, _⟩ | ⟨gr, rfl, _⟩
          · cases hq
          · injection hq with hq; rw [← hq]
        have HIH := Lib.hid (HIA.out _ (List.getElem_mem hlt) _ wr.drew (hr.grow HZ.out.bx.below))
        rw [hvs] at HIH
        have HP : Hid (∀ W, KpJ wr.drew W (w.heap.size + 1 + 1) va2 → W.cell? ⟨w.heap.size, 5, none⟩ = some (.slice (some ⟨b2, o2, none⟩) es.length c2) ∧ W.cell? ⟨b2, o2 + m * 6, none⟩ = some (.int .u8 jk) ∧ W.cell? ⟨b2, o2 + m * 6 + 1, none⟩ = some (.bool jb) ∧ W.cell? ⟨b2, o2 + m * 6 + 2, none⟩ = some (.int .i64 ji) ∧
            W.cell? ⟨b2, o2 + m * 6 + 3, none⟩ = some (.string jt) ∧ W.cell? ⟨b2, o2 + m * 6 + 4, none⟩ = some (.slice ja jn.length jc) ∧ W.cell? ⟨b2, o2 + m * 6 + 5, none⟩ = some (.slice ja2 je.length jc2)) := by
          intro W hW
          have hlt2 := HZ.out.bx.lt
          have hbM := HZ.out.bM
          have hg : ∀ g, va2 = some ⟨g, 0, none⟩ → M ≤ g := fun g hg => (HZ.out.ac.own.lt hg).1
          have key : ∀ (q : Nat) u, vs0[m][q]? = some u → W.cell? ⟨b2, o2 + m * 6 + q, none⟩ = some u := fun q u hq => hW.cell (by omega) (by omega) (fun g hg2 => by have := hg g hg2; omega) (cellBelow2 HZ.out.bx.below (HC.out.cell m hvl q u hq))
          rw [hvs] at key
          exact ⟨hW.cell (by omega) (by omega) (fun g hg2 => by have := hg g hg2; omega) (HZ.out.bx.cp 5 _ rfl), key 0 _ rfl, key 1 _ rfl, key 2 _ rfl, key 3 _ rfl, key 4 _ rfl, key 5 _ rfl⟩
        have i1 : (0 : Int) ≤ (m : Int) := by omega
        have i2 : (m : Int) < (es.length : Int) := by omega
        clear hj1 hr hvs hvl HC HIA hbl
        go_upto_region 8 with fail
        clear k5 HT
        have c5 := HZ.out.bx.cr 5 _ rfl
        refine wp_region_held_drew (S := (fun W => KpJ wr.drew W (w.heap.size + 1 + 1) va2)) (by kernel_rfl) (KpJ.refl _ _ _) (fun hH => ?_)
        generalize wr.drew = wz at HZ HIH HP c5 hH ⊢
        refine wpAnyH_take (i := 0) (oi := { dst := some 21, op := Op.fieldAddr 77 (Operand.tmp 3) 5, type := 0, pos := "ref.go:545", after := #[], guard := none }) (v := .pointer (some ⟨w.heap.size + 1 + 1, 5, none⟩)) rfl (by kernel_rfl) (by kernel_rfl) (by kernel_rfl) (fun _ _ _ h => h) (Or.inl ⟨by rfl, fun W hS => by go_simp⟩) hH ?_
        simp only [Act.put, List.setIfInBounds_toArray, List.set_cons_zero, List.set_cons_succ]
        refine wpAnyH_take (i := 2) (oi := { dst := some 23, op := Op.fieldAddr 77 (Operand.tmp 1) 5, type := 0, pos := "ref.go:545", after := #[], guard := none }) (v := .pointer (some ⟨w.heap.size, 5, none⟩)) rfl (by kernel_rfl) (by kernel_rfl) (by kernel_rfl) (fun _ _ _ h => h) (Or.inl ⟨by rfl, fun W hS => by go_simp⟩) hH ?_
        simp only [Act.put, List.setIfInBounds_toArray, List.set_cons_zero, List.set_cons_succ]
        refine wpAnyH_take (i := 3) (oi := { dst := some 24, op := Op.load 60 (Operand.tmp 23), type := 60, pos := "ref.go:545", after := #[{ on := 2, ground := Ground.data }], guard := none }) (v := .slice (some ⟨b2, o2, none⟩) es.length c2) rfl (by kernel_rfl) (by kernel_rfl) (by kernel_rfl) (fun _ _ _ h => h) (Or.inl ⟨by rfl, fun W hS => by obtain ⟨p5, -⟩ := HP.out W hS; go_simp⟩) hH ?_
        simp only [Act.put, List.setIfInBounds_toArray, List.set_cons_zero, List.set_cons_succ]
        refine wpAnyH_take (i := 4) (oi := { dst := some 25, op := Op.move (Operand.tmp 4), type := 3, pos := "ref.go:545", after := #[], guard := none }) (v := .int .i64 m) rfl (by kernel_rfl) (by kernel_rfl) (by kernel_rfl) (fun _ _ _ h => h) (Or.inl ⟨by rfl, fun W hS => by go_simp⟩) hH ?_
        simp only [Act.put, List.setIfInBounds_toArray, List.set_cons_zero, List.set_cons_succ]
        refine wpAnyH_take (i := 5) (oi := { dst := some 26, op := Op.indexAddr 60 (Operand.tmp 24) (Operand.tmp 25), type := 0, pos := "ref.go:545", after := #[{ on := 3, ground := Ground.data }, { on := 4, ground := Ground.data }], guard := none }) (v := .pointer (some ⟨b2, o2 + m * 6, none⟩)) rfl (by kernel_rfl) (by kernel_rfl) (by kernel_rfl) (fun _ _ _ h => h) (Or.inl ⟨by rfl, fun W hS => by go_simp⟩) hH ?_
        simp only [Act.put, List.setIfInBounds_toArray, List.set_cons_zero, List.set_cons_succ]
        refine wpAnyH_take (i := 6) (oi := { dst := some 27, op := Op.load 77 (Operand.tmp 26), type := 77, pos := "ref.go:545", after := #[{ on := 5, ground := Ground.data }], guard := none }) (v := .agg #[.int .u8 jk, .bool jb, .int .i64 ji, .string jt, .slice ja jn.length jc, .slice ja2 je.length jc2]) rfl (by kernel_rfl) (by kernel_rfl) (by kernel_rfl) (fun _ _ _ h => h) (Or.inl ⟨by rfl, fun W hS => by obtain ⟨-, e0, e1, e2, e3, e4, e5⟩ := HP.out W hS; go_simp⟩) hH ?_
        simp only [Act.put, List.setIfInBounds_toArray, List.set_cons_zero, List.set_cons_succ]
        refine wpAnyH_ready (rs := [1, 7]) (by kernel_rfl) (by simp) ?_
        refine AllReadyH.cons (o := { dst := some 22, op := Op.load 60 (Operand.tmp 21), type := 60, pos := "ref.go:545", after := #[{ on := 0, ground := Ground.data }], guard := none }) rfl (fun K hK => ?_) (AllReadyH.cons (o := { dst := some 28, op := Op.call { callee := Callee.value (Operand.func 74), args := #[Operand.tmp 27], argTypes := #[77] }, type := 77, pos := "ref.go:545", after := #[{ on := 6, ground := Ground.data }], guard := none }) rfl (fun K hK => ?_) AllReadyH.nil)
        · go_simp
          refine hK.out _ _ hH (fun hH => ?_)
          clear hK K
          try simp only [Act.put, List.setIfInBounds_toArray, List.set_cons_zero, List.set_cons_succ]
          refine wpAnyH_ready (rs := [7]) (by kernel_rfl) (by simp) ?_
          refine AllReadyH.cons (o := { dst := some 28, op := Op.call { callee := Callee.value (Operand.func 74), args := #[Operand.tmp 27], argTypes := #[77] }, type := 77, pos := "ref.go:545", after := #[{ on := 6, ground := Ground.data }], guard := none }) rfl (fun K hK => ?_) AllReadyH.nil
          go_simp
          go_at_call 74
          refine HIH.out.mono ?_
          rintro e W' ⟨us, rfl, hm', hb'⟩
          obtain ⟨xk, xb, xi, xt, xn, xe, xa, xc, xa2, xc2, -, hus, -⟩ := IsJson.cells HJ.out hm'
          subst hus
          obtain ⟨g', vc', W8, hap, hJT8, hg8⟩ := HZ.out.push HML.out HLE.out HJ.out hb' hm'
          have HAP := Lib.hid hap
          have HJ8 := Lib.hid hJT8
          have HG8 := Lib.hid hg8
          have c5' := (HZ.out.call hb').bx.cr 5 _ rfl
          have c8 := hJT8.bx.cr 5 _ rfl
          have f8 := hJT8.bx.fr 5
          have HB' := Lib.hid hb'
          clear hm' hb' hap hJT8 hg8
          go_wp2_with fail
          refine hK.out _ _ (KpJ.call hH HB'.out) (fun hH => ?_)
          clear hK K
          try simp only [Act.put, List.setIfInBounds_toArray, List.set_cons_zero, List.set_cons_succ]
          refine wpAnyH_ready (rs := [8]) (by kernel_rfl) (by simp) ?_
          refine AllReadyH.cons (o := { dst := some 29, op := Op.buildSlice 60 1 #[(0, Operand.tmp 28)], type := 60, pos := "ref.go:545", after := #[{ on := 7, ground := Ground.data }], guard := none }) rfl (fun K hK => ?_) AllReadyH.nil
          go_simp
          refine hK.out _ _ (KpJ.call hH ((Below.refl _ _).alloc (Nat.le_refl _) _)) (fun hH => ?_)
          clear hK K
          try simp only [Act.put, List.setIfInBounds_toArray, List.set_cons_zero, List.set_cons_succ]
          have c5a := ((HZ.out.call HB'.out).call ((Below.refl _ _).alloc (Nat.le_refl _) (.cells #[.int .u8 xk, .bool xb, .int .i64 xi, .string xt, .slice xa xn.length xc, .slice xa2 xe.length xc2] 77))).bx.cr 5 _ rfl
          refine wpAnyH_ready (rs := [9]) (by kernel_rfl) (by simp) ?_
          refine AllReadyH.cons (o := { dst := some 30, op := Op.call { callee := Callee.builtin Builtin.append, args := #[Operand.tmp 22, Operand.tmp 29], argTypes := #[60, 60] }, type := 60, pos := "ref.go:545", after := #[{ on := 1, ground := Ground.data }, { on := 8, ground := Ground.data }, { on := 7, ground := Ground.chain }], guard := none }) rfl (fun K hK => ?_) AllReadyH.nil
          refine step_append_run (by rfl) (.tmp 22) (.tmp 29) 60 (by rfl) (by rfl) (by rfl) HAP.out ?_
          refine hK.out _ _ (KpJ.grown hH HG8.out HVA.out) (fun hH => ?_)
          clear hK K
          try simp only [Act.put, List.setIfInBounds_toArray, List.set_cons_zero, List.set_cons_succ]
          refine wpAnyH_take (i := 10) (oi := { dst := some 31, op := Op.fieldAddr 77 (Operand.tmp 3) 5, type := 0, pos := "ref.go:545", after := #[{ on := 0, ground := Ground.phase }, { on := 1, ground := Ground.phase }, { on := 2, ground := Ground.phase }, { on := 3, ground := Ground.phase }, { on := 4, ground := Ground.phase }, { on := 5, ground := Ground.phase }, { on := 6, ground := Ground.phase }, { on := 7, ground := Ground.phase }, { on := 8, ground := Ground.phase }, { on := 9, ground := Ground.phase }], guard := none }) (v := .pointer (some ⟨w.heap.size + 1 + 1, 5, none⟩)) rfl (by kernel_rfl) (by kernel_rfl) (by kernel_rfl) (fun _ _ _ h => h) (Or.inl ⟨by rfl, fun W hS => by go_simp⟩) hH ?_
          simp only [Act.put, List.setIfInBounds_toArray, List.set_cons_zero, List.set_cons_succ]
          refine wpAnyH_ready (rs := [11]) (by kernel_rfl) (by simp) ?_
          refine AllReadyH.cons (o := { dst := none, op := Op.store 60 (Operand.tmp 31) (Operand.tmp 30), type := 0, pos := "ref.go:545", after := #[{ on := 10, ground := Ground.data }, { on := 9, ground := Ground.data }, { on := 9, ground := Ground.chain }, { on := 0, ground := Ground.phase }, { on := 1, ground := Ground.phase }, { on := 2, ground := Ground.phase }, { on := 3, ground := Ground.phase }, { on := 4, ground := Ground.phase }, { on := 5, ground := Ground.phase }, { on := 6, ground := Ground.phase }, { on := 7, ground := Ground.phase }, { on := 8, ground := Ground.phase }, { on := 9, ground := Ground.phase }], guard := none }) rfl (fun K hK => ?_) AllReadyH.nil
          go_simp
          refine hK.out _ _ (KpJ.set hH _ _) (fun hH => ?_)
          clear hK K
          try simp only [Act.put, List.setIfInBounds_toArray, List.set_cons_zero, List.set_cons_succ]
          refine wpAnyH_done (by kernel_rfl) ?_ _
          have wr1 : IntKind.i64.wrap ((m : Int) + 1) = (m : Int) + 1 := wrap_i64 (by omega) (by have := HLE.out; have := HML.out; omega)
          go_wp2_with fail
          have H9 := Lib.hid (HJ8.out.setR 5 (.slice (some ⟨g', 0, none⟩) (m + 1) vc'))
          go_roundw
          case rel => exact ⟨m + 1, _, _, _, by omega, by go_num, H9⟩
          case measure => simp [intOf]; omega
        · go_simp
          go_at_call 74
          refine HIH.out.mono ?_
          rintro e W' ⟨us, rfl, hm', hb'⟩
          obtain ⟨xk, xb, xi, xt, xn, xe, xa, xc, xa2, xc2, -, hus, -⟩ := IsJson.cells HJ.out hm'
          subst hus
          obtain ⟨g', vc', W8, hap, hJT8, hg8⟩ := HZ.out.push HML.out HLE.out HJ.out hb' hm'
          have HAP := Lib.hid hap
          have HJ8 := Lib.hid hJT8
          have HG8 := Lib.hid hg8
          have c5' := (HZ.out.call hb').bx.cr 5 _ rfl
          have c8 := hJT8.bx.cr 5 _ rfl
          have f8 := hJT8.bx.fr 5
          have HB' := Lib.hid hb'
          clear hm' hb' hap hJT8 hg8
          go_wp2_with fail
          refine hK.out _ _ (KpJ.call hH HB'.out) (fun hH => ?_)
          clear hK K
          try simp only [Act.put, List.setIfInBounds_toArray, List.set_cons_zero, List.set_cons_succ]
          refine wpAnyH_ready (rs := [1, 8]) (by kernel_rfl) (by simp) ?_
          refine AllReadyH.cons (o := { dst := some 22, op := Op.load 60 (Operand.tmp 21), type := 60, pos := "ref.go:545", after := #[{ on := 0, ground := Ground.data }], guard := none }) rfl (fun K hK => ?_) (AllReadyH.cons (o := { dst := some 29, op := Op.buildSlice 60 1 #[(0, Operand.tmp 28)], type := 60, pos := "ref.go:545", after := #[{ on := 7, ground := Ground.data }], guard := none }) rfl (fun K hK => ?_) AllReadyH.nil)
          · go_simp
            refine hK.out _ _ hH (fun hH => ?_)
            clear hK K
            try simp only [Act.put, List.setIfInBounds_toArray, List.set_cons_zero, List.set_cons_succ]
            refine wpAnyH_ready (rs := [8]) (by kernel_rfl) (by simp) ?_
            refine AllReadyH.cons (o := { dst := some 29, op := Op.buildSlice 60 1 #[(0, Operand.tmp 28)], type := 60, pos := "ref.go:545", after := #[{ on := 7, ground := Ground.data }], guard := none }) rfl (fun K hK => ?_) AllReadyH.nil
            go_simp
            refine hK.out _ _ (KpJ.call hH ((Below.refl _ _).alloc (Nat.le_refl _) _)) (fun hH => ?_)
            clear hK K
            try simp only [Act.put, List.setIfInBounds_toArray, List.set_cons_zero, List.set_cons_succ]
            have c5a := ((HZ.out.call HB'.out).call ((Below.refl _ _).alloc (Nat.le_refl _) (.cells #[.int .u8 xk, .bool xb, .int .i64 xi, .string xt, .slice xa xn.length xc, .slice xa2 xe.length xc2] 77))).bx.cr 5 _ rfl
            refine wpAnyH_ready (rs := [9]) (by kernel_rfl) (by simp) ?_
            refine AllReadyH.cons (o := { dst := some 30, op := Op.call { callee := Callee.builtin Builtin.append, args := #[Operand.tmp 22, Operand.tmp 29], argTypes := #[60, 60] }, type := 60, pos := "ref.go:545", after := #[{ on := 1, ground := Ground.data }, { on := 8, ground := Ground.data }, { on := 7, ground := Ground.chain }], guard := none }) rfl (fun K hK => ?_) AllReadyH.nil
            refine step_append_run (by rfl) (.tmp 22) (.tmp 29) 60 (by rfl) (by rfl) (by rfl) HAP.out ?_
            refine hK.out _ _ (KpJ.grown hH HG8.out HVA.out) (fun hH => ?_)
            clear hK K
            try simp only [Act.put, List.setIfInBounds_toArray, List.set_cons_zero, List.set_cons_succ]
            refine wpAnyH_take (i := 10) (oi := { dst := some 31, op := Op.fieldAddr 77 (Operand.tmp 3) 5, type := 0, pos := "ref.go:545", after := #[{ on := 0, ground := Ground.phase }, { on := 1, ground := Ground.phase }, { on := 2, ground := Ground.phase }, { on := 3, ground := Ground.phase }, { on := 4, ground := Ground.phase }, { on := 5, ground := Ground.phase }, { on := 6, ground := Ground.phase }, { on := 7, ground := Ground.phase }, { on := 8, ground := Ground.phase }, { on := 9, ground := Ground.phase }], guard := none }) (v := .pointer (some ⟨w.heap.size + 1 + 1, 5, none⟩)) rfl (by kernel_rfl) (by kernel_rfl) (by kernel_rfl) (fun _ _ _ h => h) (Or.inl ⟨by rfl, fun W hS => by go_simp⟩) hH ?_
            simp only [Act.put, List.setIfInBounds_toArray, List.set_cons_zero, List.set_cons_succ]
            refine wpAnyH_ready (rs := [11]) (by kernel_rfl) (by simp) ?_
            refine AllReadyH.cons (o := { dst := none, op := Op.store 60 (Operand.tmp 31) (Operand.tmp 30), type := 0, pos := "ref.go:545", after := #[{ on := 10, ground := Ground.data }, { on := 9, ground := Ground.data }, { on := 9, ground := Ground.chain }, { on := 0, ground := Ground.phase }, { on := 1, ground := Ground.phase }, { on := 2, ground := Ground.phase }, { on := 3, ground := Ground.phase }, { on := 4, ground := Ground.phase }, { on := 5, ground := Ground.phase }, { on := 6, ground := Ground.phase }, { on := 7, ground := Ground.phase }, { on := 8, ground := Ground.phase }, { on := 9, ground := Ground.phase }], guard := none }) rfl (fun K hK => ?_) AllReadyH.nil
            go_simp
            refine hK.out _ _ (KpJ.set hH _ _) (fun hH => ?_)
            clear hK K
            try simp only [Act.put, List.setIfInBounds_toArray, List.set_cons_zero, List.set_cons_succ]
            refine wpAnyH_done (by kernel_rfl) ?_ _
            have wr1 : IntKind.i64.wrap ((m : Int) + 1) = (m : Int) + 1 := wrap_i64 (by omega) (by have := HLE.out; have := HML.out; omega)
            go_wp2_with fail
            have H9 := Lib.hid (HJ8.out.setR 5 (.slice (some ⟨g', 0, none⟩) (m + 1) vc'))
            go_roundw
            case rel => exact ⟨m + 1, _, _, _, by omega, by go_num, H9⟩
            case measure => simp [intOf]; omega
          · go_simp
            refine hK.out _ _ (KpJ.call hH ((Below.refl _ _).alloc (Nat.le_refl _) _)) (fun hH => ?_)
            clear hK K
            try simp only [Act.put, List.setIfInBounds_toArray, List.set_cons_zero, List.set_cons_succ]
            have c5a := ((HZ.out.call HB'.out).call ((Below.refl _ _).alloc (Nat.le_refl _) (.cells #[.int .u8 xk, .bool xb, .int .i64 xi, .string xt, .slice xa xn.length xc, .slice xa2 xe.length xc2] 77))).bx.cr 5 _ rfl
            refine wpAnyH_ready (rs := [1]) (by kernel_rfl) (by simp) ?_
            refine AllReadyH.cons (o := { dst := some 22, op := Op.load 60 (Operand.tmp 21), type := 60, pos := "ref.go:545", after := #[{ on := 0, ground := Ground.data }], guard := none }) rfl (fun K hK => ?_) AllReadyH.nil
            go_simp
            refine hK.out _ _ hH (fun hH => ?_)
            clear hK K
            try simp only [Act.put, List.setIfInBounds_toArray, List.set_cons_zero, List.set_cons_succ]
            refine wpAnyH_ready (rs := [9]) (by kernel_rfl) (by simp) ?_
            refine AllReadyH.cons (o := { dst := some 30, op := Op.call { callee := Callee.builtin Builtin.append, args := #[Operand.tmp 22, Operand.tmp 29], argTypes := #[60, 60] }, type := 60, pos := "ref.go:545", after := #[{ on := 1, ground := Ground.data }, { on := 8, ground := Ground.data }, { on := 7, ground := Ground.chain }], guard := none }) rfl (fun K hK => ?_) AllReadyH.nil
            refine step_append_run (by rfl) (.tmp 22) (.tmp 29) 60 (by rfl) (by rfl) (by rfl) HAP.out ?_
            refine hK.out _ _ (KpJ.grown hH HG8.out HVA.out) (fun hH => ?_)
            clear hK K
            try simp only [Act.put, List.setIfInBounds_toArray, List.set_cons_zero, List.set_cons_succ]
            refine wpAnyH_take (i := 10) (oi := { dst := some 31, op := Op.fieldAddr 77 (Operand.tmp 3) 5, type := 0, pos := "ref.go:545", after := #[{ on := 0, ground := Ground.phase }, { on := 1, ground := Ground.phase }, { on := 2, ground := Ground.phase }, { on := 3, ground := Ground.phase }, { on := 4, ground := Ground.phase }, { on := 5, ground := Ground.phase }, { on := 6, ground := Ground.phase }, { on := 7, ground := Ground.phase }, { on := 8, ground := Ground.phase }, { on := 9, ground := Ground.phase }], guard := none }) (v := .pointer (some ⟨w.heap.size + 1 + 1, 5, none⟩)) rfl (by kernel_rfl) (by kernel_rfl) (by kernel_rfl) (fun _ _ _ h => h) (Or.inl ⟨by rfl, fun W hS => by go_simp⟩) hH ?_
            simp only [Act.put, List.setIfInBounds_toArray, List.set_cons_zero, List.set_cons_succ]
            refine wpAnyH_ready (rs := [11]) (by kernel_rfl) (by simp) ?_
            refine AllReadyH.cons (o := { dst := none, op := Op.store 60 (Operand.tmp 31) (Operand.tmp 30), type := 0, pos := "ref.go:545", after := #[{ on := 10, ground := Ground.data }, { on := 9, ground := Ground.data }, { on := 9, ground := Ground.chain }, { on := 0, ground := Ground.phase }, { on := 1, ground := Ground.phase }, { on := 2, ground := Ground.phase }, { on := 3, ground := Ground.phase }, { on := 4, ground := Ground.phase }, { on := 5, ground := Ground.phase }, { on := 6, ground := Ground.phase }, { on := 7, ground := Ground.phase }, { on := 8, ground := Ground.phase }, { on := 9, ground := Ground.phase }], guard := none }) rfl (fun K hK => ?_) AllReadyH.nil
            go_simp
            refine hK.out _ _ (KpJ.set hH _ _) (fun hH => ?_)
            clear hK K
            try simp only [Act.put, List.setIfInBounds_toArray, List.set_cons_zero, List.set_cons_succ]
            refine wpAnyH_done (by kernel_rfl) ?_ _
            have wr1 : IntKind.i64.wrap ((m : Int) + 1) = (m : Int) + 1 := wrap_i64 (by omega) (by have := HLE.out; have := HML.out; omega)
            go_wp2_with fail
            have H9 := Lib.hid (HJ8.out.setR 5 (.slice (some ⟨g', 0, none⟩) (m + 1) vc'))
            go_roundw
            case rel => exact ⟨m + 1, _, _, _, by omega, by go_num, H9⟩
            case measure => simp [intOf]; omega
      · have hme : m = es.length := by omega
        subst hme
        have i1 : ¬ (es.length : Int) < (es.length : Int) := by omega
        clear HC HIA
        have r0 := HT.out.bx.cr 0 _ rfl
        have r1 := HT.out.bx.cr 1 _ rfl
        have r2 := HT.out.bx.cr 2 _ rfl
        have r3 := HT.out.bx.cr 3 _ rfl
        have r4 := HT.out.bx.cr 4 _ rfl
        have r5 := HT.out.bx.cr 5 _ rfl
        have q0 := HT.out.bx.cq 0 _ rfl
        have q1 := HT.out.bx.cq 1 _ rfl
        have q2 := HT.out.bx.cq 2 _ rfl
        have q3 := HT.out.bx.cq 3 _ rfl
        have q4 := HT.out.bx.cq 4 _ rfl
        have q5 := HT.out.bx.cq 5 _ rfl
        have hf := HT.out.bx.fq
        go_wp2_with fail
        have h7 := (((((HT.out.setQ 0 (.int .u8 k)).setQ 1 (.bool b)).setQ 2 (.int .i64 i)).setQ 3 (.string t)).setQ 4 (.slice va names.length vc)).setQ 5 (.slice va2 es.length vc2)
        exact ret_jtwin (k := k) (b := b) (i := i) (t := t) (u := .slice va names.length vc) (v := .slice va2 es.length vc2) h7.bx rfl rfl (HDS.out _ _ (h7.done k b i t) h7.bx.below)
end Go.Proofs.YtinijohmdljieaaGreatDoor
