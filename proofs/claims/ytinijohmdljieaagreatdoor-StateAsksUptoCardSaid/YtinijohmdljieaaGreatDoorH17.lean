/- docketref21: Session, made, Token. docketref21.cut, docketref21.number. -/
import Derived.Test.YtinijohmdljieaaGreatDoorH15
import Derived.Test.YtinijohmdljieaaGreatDoorH16
import Derived.Lib.Strings
namespace Go.Proofs.YtinijohmdljieaaGreatDoor
open Go.RowKit

set_option maxHeartbeats 2000000 in
set_option maxRecDepth 100000 in
theorem refSession_walk (i : Int) (n : ByteArray) (u : Int) (w : World) (hn : n.size ≤ maxLen) :
    Calls Tryz.prog 85 #[sessV i n u] w fun e w' => e = .returned (.bool (decide (sessB ⟨i, n.data.toList, u⟩))) ∧ Below w.heap.size w w' := by
  have HN := Lib.hid (fun W => refNamed n W hn)
  have HB0 : Hid (Below w.heap.size w (w.alloc (sessO i n u))) := (Below.refl _ _).alloc (Nat.le_refl _) _
  rw [sess_bools]
  generalize named n.data.toList = b3 at *
  generalize hb1 : decide (0 ≤ i) = b1
  generalize hb2 : decide (i ≤ 2147483647) = b2
  generalize hb4 : decide (0 ≤ u) = b4
  generalize hb5 : decide (u ≤ 1099511627776) = b5
  clear hn
  cases b1
  · go_enter Tryz.func85, Tryz.ntmps85
    go_wp2_with fail
    go_ret
    exact ⟨rfl, HB0.out⟩
  cases b2
  · go_enter Tryz.func85, Tryz.ntmps85
    go_wp2_with fail
    go_ret
    exact ⟨rfl, HB0.out⟩
  go_enter Tryz.func85, Tryz.ntmps85
  go_wp2_with fail
  refine (HN.out _).mono ?_
  rintro e w1 ⟨rfl, rfl⟩
  cases b3
  · go_wp2_with fail
    go_ret
    exact ⟨rfl, HB0.out⟩
  cases b4
  · go_wp2_with fail
    go_ret
    exact ⟨rfl, HB0.out⟩
  cases b5 <;>
  · go_wp2_with fail
    go_ret
    exact ⟨rfl, HB0.out⟩

theorem text_bytes (i : Int) (n : ByteArray) (u : Int) : idS i ++ ⟨#[46]⟩ ++ hexS n ++ ⟨#[46]⟩ ++ idS u = ⟨(textT ⟨i, n.data.toList, u⟩).toArray⟩ := by
  rw [show (⟨#[46]⟩ : ByteArray) = ⟨[46].toArray⟩ from rfl, ba_app, ba_app, ba_app, ba_app]
  simp [textT]

set_option maxHeartbeats 8000000 in
set_option maxRecDepth 100000 in
theorem refMade_walk (secret n : ByteArray) (i u : Int) (w : World) (hi : 0 ≤ i) (hi2 : i ≤ 9223372036854775807) (hu : 0 ≤ u) (hu2 : u ≤ 9223372036854775807) (hn : n.size ≤ 10000) (hs : secret.size ≤ 1000000) :
    Calls Tryz.prog 86 #[.string secret, sessV i n u] w fun e w' => e = .returned (.string ⟨(madeT secret.data.toList ⟨i, n.data.toList, u⟩).toArray⟩) ∧ Below w.heap.size w w' := by
  obtain ⟨cc, cw, hcv, hcb⟩ := bytesOfAll n
  have hit : ((i.toNat : Nat) : Int) = i := by omega
  have hut : ((u.toNat : Nat) : Int) = u := by omega
  have HI1 : Hid (∀ W : World, BoxS w i n u W → Calls Tryz.prog 128 #[.int .i64 i] W fun e W' => e = .returned (.string (idS i)) ∧ BoxS w i n u W' ∧ Below W.heap.size W W') := fun W h => by
    have := Tens_walk _ i.toNat W (Nat.le_refl _) (by omega)
    rw [hit] at this
    exact this.mono (by rintro e W' ⟨rfl, rfl⟩; exact ⟨rfl, h, Below.refl _ _⟩)
  have HI2 : Hid (∀ W : World, BoxS w i n u W → Calls Tryz.prog 128 #[.int .i64 u] W fun e W' => e = .returned (.string (idS u)) ∧ BoxS w i n u W' ∧ Below W.heap.size W W') := fun W h => by
    have := Tens_walk _ u.toNat W (Nat.le_refl _) (by omega)
    rw [hut] at this
    exact this.mono (by rintro e W' ⟨rfl, rfl⟩; exact ⟨rfl, h, Below.refl _ _⟩)
  have HSB : Hid (∀ W, BoxS w i n u W → BoxS w i n u (cw W)) := fun W h => h.next (hcb W).2.1
  have HX := Lib.hid (fun (Wc W : World) (hb : Below (cw Wc).heap.size (cw Wc) W) (h : BoxS w i n u W) => (refHex_walk (.slice (some ⟨Wc.heap.size, 0, none⟩) n.size (cc Wc)) n.data.toList W (Row.mono (((hcb Wc).1).below hb) hb.size) (by rw [ba_len]; omega)).mono (fun e W' (q : e = .returned (.string ⟨(hexB n.data.toList).toArray⟩) ∧ Below W.heap.size W W') => (⟨q.1, h.next q.2, q.2⟩ : e = .returned (.string (hexS n)) ∧ BoxS w i n u W' ∧ Below W.heap.size W W')))
  have HB0 : Hid (BoxS w i n u (w.alloc (sessO i n u))) := BoxS.start w i n u
  have k1 := decLen i.toNat (by omega)
  have k2 := decLen u.toNat (by omega)
  have k3 : (hexB n.data.toList).length = 2 * n.size := by rw [hexB_len, ba_len]
  have n1 : ¬ 9223372036854775807 < (Lib.decDigits i.toNat).length + 1 := by omega
  have n2 : ¬ 9223372036854775807 < (Lib.decDigits i.toNat).length + 1 + (hexB n.data.toList).length := by omega
  have n3 : ¬ 9223372036854775807 < (Lib.decDigits i.toNat).length + 1 + (hexB n.data.toList).length + 1 := by omega
  have n4 : ¬ 9223372036854775807 < (Lib.decDigits i.toNat).length + 1 + (hexB n.data.toList).length + 1 + (Lib.decDigits u.toNat).length := by omega
  have htx := text_bytes i n u
  obtain ⟨T, hT⟩ : ∃ T, textT ⟨i, n.data.toList, u⟩ = T := ⟨_, rfl⟩
  have hTl : T.length ≤ 30000 := by
    rw [← hT]
    simp only [textT, List.length_append, List.length_cons, hexB_len, ba_len]
    omega
  rw [hT] at htx
  have HTX : Hid (Value.string (idS i ++ ⟨#[46]⟩ ++ hexS n ++ ⟨#[46]⟩ ++ idS u) = .string ⟨T.toArray⟩) := by show _ = _; rw [htx]
  obtain ⟨D, hD⟩ : ∃ D, sealW secret.data.toList T = D := ⟨_, rfl⟩
  have HDL : Hid (D.length = 32) := by show _ = _; rw [← hD]; exact sealW_len _ _
  have HM : Hid (madeT secret.data.toList ⟨i, n.data.toList, u⟩ = T ++ 46 :: hexB D) := by show _ = _; rw [madeT, hT, hD]
  have HSL := Lib.hid (fun (vs v : Value) (W : World) (h1 : Bytes W.heap.size W vs secret.data.toList) (h2 : Bytes W.heap.size W v T) => refSealed_walk vs v secret.data.toList T W h1 h2 (by rw [ba_len]; exact hs) (by omega))
  rw [hD] at HSL
  clear hT hD hcb k1 k2 k3 htx hit hut
  go_enter Tryz.func86, Tryz.ntmps86
  go_upto_region 1 with fail
  go_cut [5] (fun t wx => t = .string ⟨T.toArray⟩ ∧ Hid (BoxS w i n u wx))
  case first =>
    refine wp_region_held_drew (S := BoxS w i n u) (by kernel_rfl) HB0.out.drew (fun hH => ?_)
    generalize (w.alloc (sessO i n u)).drew = W0 at hH ⊢
    refine wpAnyH_take (i := 0) (oi := { dst := some 9, op := Op.fieldAddr 90 (Operand.tmp 3) 0, type := 0, pos := "ref.go:87", after := #[], guard := none }) (v := .pointer (some ⟨w.heap.size, 0, none⟩)) rfl (by kernel_rfl) (by kernel_rfl) (by kernel_rfl) (fun _ _ _ h => h) (Or.inl ⟨by rfl, fun W hS => by go_simp⟩) hH ?_
    simp only [Act.put, List.setIfInBounds_toArray, List.set_cons_zero, List.set_cons_succ]
    refine wpAnyH_take (i := 1) (oi := { dst := some 10, op := Op.load 3 (Operand.tmp 9), type := 3, pos := "ref.go:87", after := #[{ on := 0, ground := Ground.data }], guard := none }) (v := .int .i64 i) rfl (by kernel_rfl) (by kernel_rfl) (by kernel_rfl) (fun _ _ _ h => h) (Or.inl ⟨by rfl, fun W hS => by obtain ⟨-, h0, -, -⟩ := hS; go_simp⟩) hH ?_
    simp only [Act.put, List.setIfInBounds_toArray, List.set_cons_zero, List.set_cons_succ]
    refine wpAnyH_take (i := 4) (oi := { dst := some 13, op := Op.fieldAddr 90 (Operand.tmp 3) 1, type := 0, pos := "ref.go:87", after := #[], guard := none }) (v := .pointer (some ⟨w.heap.size, 1, none⟩)) rfl (by kernel_rfl) (by kernel_rfl) (by kernel_rfl) (fun _ _ _ h => h) (Or.inl ⟨by rfl, fun W hS => by go_simp⟩) hH ?_
    simp only [Act.put, List.setIfInBounds_toArray, List.set_cons_zero, List.set_cons_succ]
    refine wpAnyH_take (i := 5) (oi := { dst := some 14, op := Op.load 9 (Operand.tmp 13), type := 9, pos := "ref.go:87", after := #[{ on := 4, ground := Ground.data }], guard := none }) (v := .string n) rfl (by kernel_rfl) (by kernel_rfl) (by kernel_rfl) (fun _ _ _ h => h) (Or.inl ⟨by rfl, fun W hS => by obtain ⟨-, -, h0, -⟩ := hS; go_simp⟩) hH ?_
    simp only [Act.put, List.setIfInBounds_toArray, List.set_cons_zero, List.set_cons_succ]
    refine wpAnyH_take (i := 10) (oi := { dst := some 19, op := Op.fieldAddr 90 (Operand.tmp 3) 2, type := 0, pos := "ref.go:87", after := #[], guard := none }) (v := .pointer (some ⟨w.heap.size, 2, none⟩)) rfl (by kernel_rfl) (by kernel_rfl) (by kernel_rfl) (fun _ _ _ h => h) (Or.inl ⟨by rfl, fun W hS => by go_simp⟩) hH ?_
    simp only [Act.put, List.setIfInBounds_toArray, List.set_cons_zero, List.set_cons_succ]
    refine wpAnyH_take (i := 11) (oi := { dst := some 20, op := Op.load 3 (Operand.tmp 19), type := 3, pos := "ref.go:87", after := #[{ on := 10, ground := Ground.data }], guard := none }) (v := .int .i64 u) rfl (by kernel_rfl) (by kernel_rfl) (by kernel_rfl) (fun _ _ _ h => h) (Or.inl ⟨by rfl, fun W hS => by obtain ⟨-, -, -, h0⟩ := hS; go_simp⟩) hH ?_
    simp only [Act.put, List.setIfInBounds_toArray, List.set_cons_zero, List.set_cons_succ]
    refine wpAnyH_ready (rs := [2, 6]) (by kernel_rfl) (by simp) ?_
    refine AllReadyH.cons (o := { dst := some 11, op := Op.call { callee := Callee.value (Operand.func 128), args := #[Operand.tmp 10], argTypes := #[2] }, type := 9, pos := "ref.go:87", after := #[{ on := 1, ground := Ground.data }], guard := none }) rfl (fun K hK => ?_) (AllReadyH.cons (o := { dst := some 15, op := Op.convert 9 152 (Operand.tmp 14), type := 152, pos := "ref.go:87", after := #[{ on := 5, ground := Ground.data }], guard := none }) rfl (fun K hK => ?_) AllReadyH.nil)
    · go_simp
      go_at_call 128
      refine (HI1.out _ hH).mono ?_
      rintro e W' ⟨rfl, hs, hb⟩
      go_wp2_with fail
      refine hK.out _ _ hs (fun hH => ?_)
      clear hK K
      try simp only [Act.put, List.setIfInBounds_toArray, List.set_cons_zero, List.set_cons_succ]
      refine wpAnyH_take (i := 3) (oi := { dst := some 12, op := Op.binOp BinOp.add 9 (Operand.tmp 11) (Operand.const (Value.string { data := #[46] })) 9, type := 9, pos := "ref.go:87", after := #[{ on := 2, ground := Ground.data }], guard := none }) (v := .string (idS i ++ ⟨#[46]⟩)) rfl (by kernel_rfl) (by kernel_rfl) (by kernel_rfl) (fun _ _ _ h => h) (Or.inl ⟨by rfl, fun W hS => by go_simp⟩) hH ?_
      simp only [Act.put, List.setIfInBounds_toArray, List.set_cons_zero, List.set_cons_succ]
      refine wpAnyH_ready (rs := [6]) (by kernel_rfl) (by simp) ?_
      refine AllReadyH.cons (o := { dst := some 15, op := Op.convert 9 152 (Operand.tmp 14), type := 152, pos := "ref.go:87", after := #[{ on := 5, ground := Ground.data }], guard := none }) rfl (fun K hK => ?_) AllReadyH.nil
      go_simp
      refine hK.out _ _ (HSB.out _ hH) (fun hH => ?_)
      clear hK K
      try simp only [Act.put, List.setIfInBounds_toArray, List.set_cons_zero, List.set_cons_succ]
      refine wpAnyH_ready (rs := [7]) (by kernel_rfl) (by simp) ?_
      refine AllReadyH.cons (o := { dst := some 16, op := Op.call { callee := Callee.value (Operand.func 129), args := #[Operand.tmp 15], argTypes := #[152] }, type := 9, pos := "ref.go:87", after := #[{ on := 6, ground := Ground.data }, { on := 2, ground := Ground.chain }], guard := none }) rfl (fun K hK => ?_) AllReadyH.nil
      go_simp
      go_at_call 129
      refine (HX.out _ _ (by first | exact Below.refl _ _ | assumption) hH).mono ?_
      rintro e W' ⟨rfl, hs, hb⟩
      go_wp2_with fail
      refine hK.out _ _ hs (fun hH => ?_)
      clear hK K
      try simp only [Act.put, List.setIfInBounds_toArray, List.set_cons_zero, List.set_cons_succ]
      refine wpAnyH_take (i := 8) (oi := { dst := some 17, op := Op.binOp BinOp.add 9 (Operand.tmp 12) (Operand.tmp 16) 9, type := 9, pos := "ref.go:87", after := #[{ on := 3, ground := Ground.data }, { on := 7, ground := Ground.data }], guard := none }) (v := .string (idS i ++ ⟨#[46]⟩ ++ hexS n)) rfl (by kernel_rfl) (by kernel_rfl) (by kernel_rfl) (fun _ _ _ h => h) (Or.inl ⟨by rfl, fun W hS => by go_simp⟩) hH ?_
      simp only [Act.put, List.setIfInBounds_toArray, List.set_cons_zero, List.set_cons_succ]
      refine wpAnyH_take (i := 9) (oi := { dst := some 18, op := Op.binOp BinOp.add 9 (Operand.tmp 17) (Operand.const (Value.string { data := #[46] })) 9, type := 9, pos := "ref.go:87", after := #[{ on := 8, ground := Ground.data }], guard := none }) (v := .string (idS i ++ ⟨#[46]⟩ ++ hexS n ++ ⟨#[46]⟩)) rfl (by kernel_rfl) (by kernel_rfl) (by kernel_rfl) (fun _ _ _ h => h) (Or.inl ⟨by rfl, fun W hS => by go_simp⟩) hH ?_
      simp only [Act.put, List.setIfInBounds_toArray, List.set_cons_zero, List.set_cons_succ]
      refine wpAnyH_ready (rs := [12]) (by kernel_rfl) (by simp) ?_
      refine AllReadyH.cons (o := { dst := some 21, op := Op.call { callee := Callee.value (Operand.func 128), args := #[Operand.tmp 20], argTypes := #[2] }, type := 9, pos := "ref.go:87", after := #[{ on := 11, ground := Ground.data }, { on := 7, ground := Ground.chain }], guard := none }) rfl (fun K hK => ?_) AllReadyH.nil
      go_simp
      go_at_call 128
      refine (HI2.out _ hH).mono ?_
      rintro e W' ⟨rfl, hs, hb⟩
      go_wp2_with fail
      refine hK.out _ _ hs (fun hH => ?_)
      clear hK K
      try simp only [Act.put, List.setIfInBounds_toArray, List.set_cons_zero, List.set_cons_succ]
      refine wpAnyH_take (i := 13) (oi := { dst := some 22, op := Op.binOp BinOp.add 9 (Operand.tmp 18) (Operand.tmp 21) 9, type := 9, pos := "ref.go:87", after := #[{ on := 9, ground := Ground.data }, { on := 12, ground := Ground.data }], guard := none }) (v := .string (idS i ++ ⟨#[46]⟩ ++ hexS n ++ ⟨#[46]⟩ ++ idS u)) rfl (by kernel_rfl) (by kernel_rfl) (by kernel_rfl) (fun _ _ _ h => h) (Or.inl ⟨by rfl, fun W hS => by go_simp⟩) hH ?_
      simp only [Act.put, List.setIfInBounds_toArray, List.set_cons_zero, List.set_cons_succ]
      refine wpAnyH_take (i := 14) (oi := { dst := some 5, op := Op.assign (Operand.tmp 22), type := 9, pos := "ref.go:87", after := #[{ on := 13, ground := Ground.data }, { on := 12, ground := Ground.chain }, { on := 0, ground := Ground.phase }, { on := 1, ground := Ground.phase }, { on := 2, ground := Ground.phase }, { on := 3, ground := Ground.phase }, { on := 4, ground := Ground.phase }, { on := 5, ground := Ground.phase }, { on := 6, ground := Ground.phase }, { on := 7, ground := Ground.phase }, { on := 8, ground := Ground.phase }, { on := 9, ground := Ground.phase }, { on := 10, ground := Ground.phase }, { on := 11, ground := Ground.phase }, { on := 12, ground := Ground.phase }, { on := 13, ground := Ground.phase }], guard := none }) (v := .string (idS i ++ ⟨#[46]⟩ ++ hexS n ++ ⟨#[46]⟩ ++ idS u)) rfl (by kernel_rfl) (by kernel_rfl) (by kernel_rfl) (fun _ _ _ h => h) (Or.inl ⟨by rfl, fun W hS => by go_simp⟩) hH ?_
      simp only [Act.put, List.setIfInBounds_toArray, List.set_cons_zero, List.set_cons_succ]
      refine wpAnyH_done (by kernel_rfl) ?_ _
      go_wp2_with fail
      go_meet
      exact ⟨HTX.out, hH⟩
    · go_simp
      refine hK.out _ _ (HSB.out _ hH) (fun hH => ?_)
      clear hK K
      try simp only [Act.put, List.setIfInBounds_toArray, List.set_cons_zero, List.set_cons_succ]
      refine wpAnyH_ready (rs := [2]) (by kernel_rfl) (by simp) ?_
      refine AllReadyH.cons (o := { dst := some 11, op := Op.call { callee := Callee.value (Operand.func 128), args := #[Operand.tmp 10], argTypes := #[2] }, type := 9, pos := "ref.go:87", after := #[{ on := 1, ground := Ground.data }], guard := none }) rfl (fun K hK => ?_) AllReadyH.nil
      go_simp
      go_at_call 128
      refine (HI1.out _ hH).mono ?_
      rintro e W' ⟨rfl, hs, hb⟩
      go_wp2_with fail
      refine hK.out _ _ hs (fun hH => ?_)
      clear hK K
      try simp only [Act.put, List.setIfInBounds_toArray, List.set_cons_zero, List.set_cons_succ]
      refine wpAnyH_take (i := 3) (oi := { dst := some 12, op := Op.binOp BinOp.add 9 (Operand.tmp 11) (Operand.const (Value.string { data := #[46] })) 9, type := 9, pos := "ref.go:87", after := #[{ on := 2, ground := Ground.data }], guard := none }) (v := .string (idS i ++ ⟨#[46]⟩)) rfl (by kernel_rfl) (by kernel_rfl) (by kernel_rfl) (fun _ _ _ h => h) (Or.inl ⟨by rfl, fun W hS => by go_simp⟩) hH ?_
      simp only [Act.put, List.setIfInBounds_toArray, List.set_cons_zero, List.set_cons_succ]
      refine wpAnyH_ready (rs := [7]) (by kernel_rfl) (by simp) ?_
      refine AllReadyH.cons (o := { dst := some 16, op := Op.call { callee := Callee.value (Operand.func 129), args := #[Operand.tmp 15], argTypes := #[152] }, type := 9, pos := "ref.go:87", after := #[{ on := 6, ground := Ground.data }, { on := 2, ground := Ground.chain }], guard := none }) rfl (fun K hK => ?_) AllReadyH.nil
      go_simp
      go_at_call 129
      refine (HX.out _ _ (by first | exact Below.refl _ _ | assumption) hH).mono ?_
      rintro e W' ⟨rfl, hs, hb⟩
      go_wp2_with fail
      refine hK.out _ _ hs (fun hH => ?_)
      clear hK K
      try simp only [Act.put, List.setIfInBounds_toArray, List.set_cons_zero, List.set_cons_succ]
      refine wpAnyH_take (i := 8) (oi := { dst := some 17, op := Op.binOp BinOp.add 9 (Operand.tmp 12) (Operand.tmp 16) 9, type := 9, pos := "ref.go:87", after := #[{ on := 3, ground := Ground.data }, { on := 7, ground := Ground.data }], guard := none }) (v := .string (idS i ++ ⟨#[46]⟩ ++ hexS n)) rfl (by kernel_rfl) (by kernel_rfl) (by kernel_rfl) (fun _ _ _ h => h) (Or.inl ⟨by rfl, fun W hS => by go_simp⟩) hH ?_
      simp only [Act.put, List.setIfInBounds_toArray, List.set_cons_zero, List.set_cons_succ]
      refine wpAnyH_take (i := 9) (oi := { dst := some 18, op := Op.binOp BinOp.add 9 (Operand.tmp 17) (Operand.const (Value.string { data := #[46] })) 9, type := 9, pos := "ref.go:87", after := #[{ on := 8, ground := Ground.data }], guard := none }) (v := .string (idS i ++ ⟨#[46]⟩ ++ hexS n ++ ⟨#[46]⟩)) rfl (by kernel_rfl) (by kernel_rfl) (by kernel_rfl) (fun _ _ _ h => h) (Or.inl ⟨by rfl, fun W hS => by go_simp⟩) hH ?_
      simp only [Act.put, List.setIfInBounds_toArray, List.set_cons_zero, List.set_cons_succ]
      refine wpAnyH_ready (rs := [12]) (by kernel_rfl) (by simp) ?_
      refine AllReadyH.cons (o := { dst := some 21, op := Op.call { callee := Callee.value (Operand.func 128), args := #[Operand.tmp 20], argTypes := #[2] }, type := 9, pos := "ref.go:87", after := #[{ on := 11, ground := Ground.data }, { on := 7, ground := Ground.chain }], guard := none }) rfl (fun K hK => ?_) AllReadyH.nil
      go_simp
      go_at_call 128
      refine (HI2.out _ hH).mono ?_
      rintro e W' ⟨rfl, hs, hb⟩
      go_wp2_with fail
      refine hK.out _ _ hs (fun hH => ?_)
      clear hK K
      try simp only [Act.put, List.setIfInBounds_toArray, List.set_cons_zero, List.set_cons_succ]
      refine wpAnyH_take (i := 13) (oi := { dst := some 22, op := Op.binOp BinOp.add 9 (Operand.tmp 18) (Operand.tmp 21) 9, type := 9, pos := "ref.go:87", after := #[{ on := 9, ground := Ground.data }, { on := 12, ground := Ground.data }], guard := none }) (v := .string (idS i ++ ⟨#[46]⟩ ++ hexS n ++ ⟨#[46]⟩ ++ idS u)) rfl (by kernel_rfl) (by kernel_rfl) (by kernel_rfl) (fun _ _ _ h => h) (Or.inl ⟨by rfl, fun W hS => by go_simp⟩) hH ?_
      simp only [Act.put, List.setIfInBounds_toArray, List.set_cons_zero, List.set_cons_succ]
      refine wpAnyH_take (i := 14) (oi := { dst := some 5, op := Op.assign (Operand.tmp 22), type := 9, pos := "ref.go:87", after := #[{ on := 13, ground := Ground.data }, { on := 12, ground := Ground.chain }, { on := 0, ground := Ground.phase }, { on := 1, ground := Ground.phase }, { on := 2, ground := Ground.phase }, { on := 3, ground := Ground.phase }, { on := 4, ground := Ground.phase }, { on := 5, ground := Ground.phase }, { on := 6, ground := Ground.phase }, { on := 7, ground := Ground.phase }, { on := 8, ground := Ground.phase }, { on := 9, ground := Ground.phase }, { on := 10, ground := Ground.phase }, { on := 11, ground := Ground.phase }, { on := 12, ground := Ground.phase }, { on := 13, ground := Ground.phase }], guard := none }) (v := .string (idS i ++ ⟨#[46]⟩ ++ hexS n ++ ⟨#[46]⟩ ++ idS u)) rfl (by kernel_rfl) (by kernel_rfl) (by kernel_rfl) (fun _ _ _ h => h) (Or.inl ⟨by rfl, fun W hS => by go_simp⟩) hH ?_
      simp only [Act.put, List.setIfInBounds_toArray, List.set_cons_zero, List.set_cons_succ]
      refine wpAnyH_done (by kernel_rfl) ?_ _
      go_wp2_with fail
      go_meet
      exact ⟨HTX.out, hH⟩
  case rest =>
    obtain ⟨rfl, hS⟩ := hcut
    have HSS := Lib.hid hS.out.below
    obtain ⟨v1, c1, w4, cv4, bt4, bl4, sz4⟩ := bytesOf wc secret
    obtain ⟨v2, c2, w5, cv5, bt5, bl5, sz5⟩ := bytesOf w4 ⟨T.toArray⟩
    have HSL5 := Lib.hid (HSL.out _ _ w5 (Row.mono (Bytes.below (Row.mono bt4 (by omega)) bl5) (by omega)) (Row.mono bt5 (by omega)))
    have HW5 := Lib.hid (HSS.out.trans ((below_two bl4 bl5).mono HSS.out.size))
    clear bt4 bl4 sz4 bt5 bl5 sz5 hS HSL n1 n2 n3 n4
    go_wp2_with fail
    refine HSL5.out.mono ?_
    rintro e w6 ⟨rfl, hb6⟩
    have HW6 := Lib.hid (HW5.out.trans (hb6.mono HW5.out.size))
    have HT := Lib.hid (store32 w6 D HDL.out)
    clear hb6 HSL5 HW5
    have tok1 : True := trivial
    go_wp2_with (have _t := tok1; refine wpList_store_mid (by rfl) 214 _ _ (by rfl) w6.heap.size 0 (D.map bv).toArray (by rfl) (by rfl) HT.out.1 (info32 HDL.out) (bytes_one D) ?_; clear tok1 _t; generalize hW : World.setCells _ w6.heap.size 0 (D.map bv).toArray.toList = wz; have hA1 : Hid (Arr wz w6.heap.size 214 (D.map bv)) := (by rw [← hW]; exact HT.out.2.1 : Arr _ _ _ _); have hB3 : Hid (Below w6.heap.size w6 wz) := (by rw [← hW]; exact HT.out.2.2.1 : Below _ _ _); clear hW HT)
    have HWZ := Lib.hid (HW6.out.trans (hB3.out.mono HW6.out.size))
    have HG0 : Hid (Gr wz wz none 0 0 (D.take 0)) := Gr.nil wz
    clear hB3 HW6
    generalize w6.heap.size = gd at *
    go_loopw [7, 8] (fun t j wr => ∃ (k : Nat) (va : Option Addr) (vc m : Nat), k ≤ 32 ∧ j = .int .i64 k ∧ t = .slice va m vc ∧ Hid (Gr wz wr va vc m (D.take k)) ∧ Hid (Arr wr gd 214 (D.map bv)) ∧ Hid (∀ g, va = some ⟨g, 0, none⟩ → g ≠ gd)) (fun _ j _ => 32 - (intOf j).toNat)
    case atStart => exact ⟨0, none, 0, 0, by omega, rfl, rfl, HG0, hA1, fun g h => by cases h⟩
    case round =>
      clear HG0 hA1
      obtain ⟨k, va, vc, m, hk, rfl, rfl, hG, hA, hne⟩ := hrel
      have hml := hG.out.1
      rw [List.length_take] at hml
      by_cases hlt : k < 32
      · have hkD : k < D.length := by rw [HDL.out]; exact hlt
        have c0 := hA.out.cell (j := k) (by simpa using hkD)
        rw [List.getElem_map] at c0
        have hsn : D.take (k + 1) = D.take k ++ [D[k]] := List.take_succ_eq_append_getElem hkD
        have i1 : (k : Int) < 32 := by omega
        have i2 : (0 : Int) ≤ (k : Int) := by omega
        obtain ⟨c, hc⟩ : ∃ c : Nat, D[k].toNat = c := ⟨_, rfl⟩
        have hcv : Value.int .u8 (c : Int) = bv D[k] := by rw [bv, hc]
        rw [← hcv] at c0
        obtain ⟨va', vc', w7, hap, hG7, hA7, hne7⟩ := hG.out.pushAt D[k] (.int .u8 (c : Int)) hcv (by omega) hA.out hne.out
        rw [← hsn] at hG7
        have HAP := Lib.hid hap; have HG7 := Lib.hid hG7; have HA7 := Lib.hid hA7; have HN7 := Lib.hid hne7
        clear hap hG7 hA7 hne7 hG hA hne hsn hml hcv hc
        go_wp2_with (at_builtin; refine wpList_append_run (by rfl) (.tmp 32) (.tmp 36) 152 (by rfl) (by rfl) (by rfl) HAP.out ?_)
        go_roundw
        case rel => exact ⟨k + 1, va', vc', m + 1, by omega, by go_num, rfl, HG7, HA7, HN7⟩
        case measure => simp [intOf]; omega
      · have hk32 : k = 32 := by omega
        have i1 : ¬ (k : Int) < 32 := by omega
        have HBy : Hid (Bytes wr.heap.size wr (.slice va m vc) D) := by
          have := hG.out.bytes
          rw [List.take_of_length_le (by rw [HDL.out]; omega)] at this
          exact this
        have HX2 := Lib.hid (refHex_walk (.slice va m vc) D wr HBy.out (by rw [HDL.out]; omega))
        have HWR := Lib.hid (HWZ.out.trans (hG.out.2.2.mono HWZ.out.size))
        have hxl : (hexB D).length = 64 := by rw [hexB_len, HDL.out]
        have n1 : ¬ 9223372036854775807 < T.length + 1 := by omega
        have n2 : ¬ 9223372036854775807 < T.length + 1 + (hexB D).length := by omega
        clear hG hA hne HBy hxl hml
        go_wp2_with fail
        refine HX2.out.mono ?_
        rintro e w8 ⟨rfl, hb8⟩
        have HB8 := Lib.hid (HWR.out.trans (hb8.mono HWR.out.size))
        clear hb8 HX2
        go_wp2_with fail
        go_ret
        refine ⟨?_, HB8.out⟩
        rw [HM.out, show T ++ 46 :: hexB D = (T ++ [46]) ++ hexB D by simp, ← ba_app, ← ba_app]
        rfl
end Go.Proofs.YtinijohmdljieaaGreatDoor

namespace Go.Proofs.YtinijohmdljieaaGreatDoor
open Go.RowKit

theorem ba_mk (b : ByteArray) : (⟨b.data.toList.toArray⟩ : ByteArray) = b := by cases b; simp
/-- what stands ahead of the first point from a place on -/
def CutEnd (s : ByteArray) (f : Nat) (e : Ending) : Prop :=
  (∃ a r, s.data.toList.drop f = a ++ 46 :: r ∧ 46 ∉ a ∧ e = .returned (.tuple #[.string ⟨a.toArray⟩, .int .i64 ((f + a.length + 1 : Nat) : Int), .bool true])) ∨
    (46 ∉ s.data.toList.drop f ∧ e = .returned (.tuple #[.string ⟨#[]⟩, .int .i64 0, .bool false]))
theorem cut_here {s : ByteArray} {f k : Nat} (hf : f ≤ k) (hk : k < s.size) (h : 46 ∉ (s.data.toList.drop f).take (k - f)) (h46 : s[k] = 46) :
    CutEnd s f (.returned (.tuple #[.string (s.extract f k), .int .i64 ((k : Int) + 1), .bool true])) := by
  have hl : s.data.toList.length = s.size := rfl
  refine .inl ⟨(s.data.toList.drop f).take (k - f), s.data.toList.drop (k + 1), ?_, h, ?_⟩
  · have h1 : (s.data.toList.drop f).drop (k - f) = 46 :: s.data.toList.drop (k + 1) := by
      rw [List.drop_drop, show f + (k - f) = k by omega, List.drop_eq_getElem_cons (by omega)]
      congr 1
    rw [← h1, List.take_append_drop]
  · have h2 : (s.data.toList.drop f).take (k - f) = (s.extract f k).data.toList := by rw [Lib.extract_data]
    have h3 : ((s.data.toList.drop f).take (k - f)).length = k - f := by rw [List.length_take, List.length_drop]; omega
    have h4 : ((f + (k - f) + 1 : Nat) : Int) = (k : Int) + 1 := by omega
    rw [h3, h2, ba_mk, h4]
theorem cut_next {s : ByteArray} {f k : Nat} (hf : f ≤ k) (hk : k < s.size) (h : 46 ∉ (s.data.toList.drop f).take (k - f)) (h46 : s[k] ≠ 46) : 46 ∉ (s.data.toList.drop f).take (k + 1 - f) := by
  have hl : s.data.toList.length = s.size := rfl
  rw [show k + 1 - f = k - f + 1 by omega, List.take_succ_eq_append_getElem (by rw [List.length_drop]; omega)]
  intro hm
  rcases List.mem_append.1 hm with h1 | h1
  · exact h h1
  · simp only [List.mem_singleton, List.getElem_drop] at h1
    apply h46
    rw [ByteArray.getElem_eq_getElem_data]
    have : f + (k - f) = k := by omega
    simp only [this] at h1
    simpa using h1.symm

set_option maxHeartbeats 2000000 in
set_option maxRecDepth 100000 in
theorem cut_walk (s : ByteArray) (f : Nat) (w : World) (hs : s.size ≤ 1000000) (hf : f ≤ s.size) :
    Calls Tryz.prog 83 #[.string s, .int .i64 (f : Int)] w fun e w' => CutEnd s f e ∧ w = w' := by
  go_enter Tryz.func83, Tryz.ntmps83
  go_wp2
  go_loop [7] (fun i => ∃ k : Nat, f ≤ k ∧ k ≤ s.size ∧ i = .int .i64 k ∧ Hid (46 ∉ (s.data.toList.drop f).take (k - f))) (fun i => s.size - (intOf i).toNat)
  case atStart => exact ⟨f, Nat.le_refl _, hf, rfl, by simp [Hid]⟩
  case round =>
    obtain ⟨k, hfk, hk, rfl, hno⟩ := hrel
    by_cases hlt : k < s.size
    · have i1 : (k : Int) < (s.size : Int) := by omega
      have i2 : (0 : Int) ≤ (f : Int) := by omega
      have i3 : (f : Int) ≤ (k : Int) := by omega
      by_cases h46 : s[k] = 46
      · have HC := Lib.hid (cut_here hfk hlt hno.out h46)
        have g : (((s[k]'hlt).toNat : Int) == 46) = true := by rw [h46]; rfl
        clear h46 hno
        go_wp2
        go_ret3
        exact ⟨HC.out, rfl⟩
      · have HC := Lib.hid (cut_next hfk hlt hno.out h46)
        have g : (((s[k]'hlt).toNat : Int) == 46) = false := by
          rw [beq_eq_false_iff_ne]
          intro he
          exact h46 (UInt8.toNat_inj.1 (by have : (46 : UInt8).toNat = 46 := rfl; omega))
        clear h46 hno
        go_wp2
        go_round
        case rel => exact ⟨k + 1, by omega, by omega, by go_num, HC⟩
        case measure => simp [intOf]; omega
    · obtain rfl : k = s.size := by omega
      have HN : Hid (46 ∉ s.data.toList.drop f) := by
        have := hno.out
        rw [List.take_of_length_le (by rw [List.length_drop]; exact Nat.le_refl _)] at this
        exact this
      clear hno
      go_wp2
      go_ret3
      exact ⟨.inr ⟨HN.out, rfl⟩, rfl⟩
end Go.Proofs.YtinijohmdljieaaGreatDoor
