/- pass.sealer's closure: a session's token. docketref14: turn, word, first, steps. -/
import Derived.Deep.DeepCutAuto
import Derived.Deep.RegionHeld3
import Derived.Test.YtinijohmdljieaaGreatDoorH14
import Derived.Test.YtinijohmdljieaaGreatDoorH06
import Derived.Test.YtinijohmdljieaaGreatDoorH02
namespace Go.Proofs.YtinijohmdljieaaGreatDoor
open Go.RowKit

/-- the box of a session, and what it holds, in later worlds -/
def BoxS (w : World) (i : Int) (n : ByteArray) (u : Int) (W : World) : Prop :=
  Below (w.heap.size + 1) (w.alloc (sessO i n u)) W ∧ W.cell? ⟨w.heap.size, 0, none⟩ = some (.int .i64 i) ∧ W.cell? ⟨w.heap.size, 1, none⟩ = some (.string n) ∧ W.cell? ⟨w.heap.size, 2, none⟩ = some (.int .i64 u)
theorem BoxS.of {w : World} {i : Int} {n : ByteArray} {u : Int} {W : World} (hb : Below (w.heap.size + 1) (w.alloc (sessO i n u)) W) : BoxS w i n u W := ⟨hb, box3 w i n u W hb⟩
theorem BoxS.start (w : World) (i : Int) (n : ByteArray) (u : Int) : BoxS w i n u (w.alloc (sessO i n u)) := .of (Below.refl _ _)
theorem BoxS.size {w : World} {i : Int} {n : ByteArray} {u : Int} {W : World} (h : BoxS w i n u W) : w.heap.size + 1 ≤ W.heap.size := by
  have := h.1.size
  simpa using this
theorem BoxS.next {w : World} {i : Int} {n : ByteArray} {u : Int} {W W' : World} (h : BoxS w i n u W) (hb : Below W.heap.size W W') : BoxS w i n u W' := .of (h.1.trans (hb.mono h.size))
theorem BoxS.drew {w : World} {i : Int} {n : ByteArray} {u : Int} {W : World} (h : BoxS w i n u W) : BoxS w i n u W.drew := .of h.1.drew
theorem BoxS.alloc {w : World} {i : Int} {n : ByteArray} {u : Int} {W : World} (h : BoxS w i n u W) (o : Obj) : BoxS w i n u (W.alloc o) := .of (h.1.alloc h.size o)
theorem BoxS.tokW {w : World} {i : Int} {n : ByteArray} {u : Int} {W : World} (h : BoxS w i n u W) (hw : TokW w) : TokW W := by
  have h1 : TokW (w.alloc (sessO i n u)) := hw.below ((Below.refl _ _).alloc (Nat.le_refl _) _)
  exact h1.below (by have := h.1; rwa [show w.heap.size + 1 = (w.alloc (sessO i n u)).heap.size by simp] at this)
theorem BoxS.below {w : World} {i : Int} {n : ByteArray} {u : Int} {W : World} (h : BoxS w i n u W) : Below w.heap.size w W :=
  ((Below.refl _ _).alloc (Nat.le_refl _) _).trans (h.1.mono (by omega))
theorem below_two {a b c : World} (h1 : Below a.heap.size a b) (h2 : Below b.heap.size b c) : Below a.heap.size a c := h1.trans (h2.mono h1.size)

/-- '[]byte(s)', in whatever world -/
theorem bytesOfAll (s : ByteArray) : ∃ (cc : World → Nat) (cw : World → World), (∀ W, (convert 9 152 (.string s)).run Tryz.prog W = .ok (.slice (some ⟨W.heap.size, 0, none⟩) s.size (cc W)) (cw W)) ∧
    ∀ W, Bytes (cw W).heap.size (cw W) (.slice (some ⟨W.heap.size, 0, none⟩) s.size (cc W)) s.data.toList ∧ Below W.heap.size W (cw W) ∧ (cw W).heap.size = W.heap.size + 1 := by
  refine ⟨fun W => grownCap W s.size 0 5, fun W => Lib.bytesWorld W 5 s, fun W => Lib.run_convert_string_bytes W _ _ 5 s Tryz.underlying9 Tryz.underlying152 Tryz.underlying5, fun W => ⟨?_, ?_, Lib.bytesWorld_size _ _ _⟩⟩
  · rw [Lib.bytesWorld_size]
    refine Bytes.mk' (b := W.heap.size) (off := 0) rfl ?_ (fun _ => ⟨rfl, by omega⟩) fun j hj => ?_
    · exact grownCap_ge _ _ _ _
    · rw [Nat.zero_add, Lib.bytesWorld_cell _ _ _ _ hj]
      simp [List.getD_eq_getElem?_getD, List.getElem?_eq_getElem hj]
  · exact ⟨by unfold Lib.bytesWorld World.freeze; split <;> rfl, by unfold Lib.bytesWorld World.freeze; split <;> rfl, by unfold Lib.bytesWorld World.freeze; split <;> rfl, by rw [Lib.bytesWorld_size]; omega, fun k hk => Lib.bytesWorld_at_old _ _ _ _ hk⟩

abbrev idS (i : Int) : ByteArray := ⟨(Lib.decDigits i.toNat).toArray⟩
abbrev hexS (n : ByteArray) : ByteArray := ⟨(hexB n.data.toList).toArray⟩
def three (a b c : ByteArray) : Nat → ByteArray
  | 0 => a
  | 1 => b
  | _ => c
theorem join_text (i : Int) (n : ByteArray) (u : Int) : joinT (three (idS i) (hexS n) (idS u)) 2 = textT ⟨i, n.data.toList, u⟩ := by
  simp [joinT, three, textT]

set_option maxHeartbeats 8000000 in
set_option maxRecDepth 100000 in
theorem sealed_walk (g : Nat) (secret n : ByteArray) (i u : Int) (w : World) (hw : TokW w) (hk : w.cell? ⟨g, 0, none⟩ = some (.string secret)) (hg : g < w.heap.size) (hi : 0 ≤ i) (hi2 : i ≤ 9223372036854775807) (hu : 0 ≤ u) (hu2 : u ≤ 9223372036854775807) (hn : n.size ≤ 10000) (hs : secret.size ≤ 1000000) :
    Calls Tryz.prog 123 #[sessV i n u, .pointer (some ⟨g, 0, none⟩)] w fun e w' => e = .returned (.string ⟨(madeT secret.data.toList ⟨i, n.data.toList, u⟩).toArray⟩) ∧ Below w.heap.size w w' := by
  obtain ⟨cc, cw, hcv, hcb⟩ := bytesOfAll n
  have HI1 := Lib.hid (fun (W : World) (h : BoxS w i n u W) => (itoa_walk i W (h.tokW hw) hi hi2).mono (fun e W' (q : e = .returned (.string ⟨(Lib.decDigits i.toNat).toArray⟩) ∧ Below W.heap.size W W') => (⟨q.1, h.next q.2, q.2⟩ : e = .returned (.string (idS i)) ∧ BoxS w i n u W' ∧ Below W.heap.size W W')))
  have HI2 := Lib.hid (fun (W : World) (h : BoxS w i n u W) => (itoa_walk u W (h.tokW hw) hu hu2).mono (fun e W' (q : e = .returned (.string ⟨(Lib.decDigits u.toNat).toArray⟩) ∧ Below W.heap.size W W') => (⟨q.1, h.next q.2, q.2⟩ : e = .returned (.string (idS u)) ∧ BoxS w i n u W' ∧ Below W.heap.size W W')))
  have HSB : Hid (∀ W, BoxS w i n u W → BoxS w i n u (cw W)) := fun W h => h.next (hcb W).2.1
  have HX := Lib.hid (fun (Wc W : World) (hb : Below (cw Wc).heap.size (cw Wc) W) (h : BoxS w i n u W) => (Hex_walk (.slice (some ⟨Wc.heap.size, 0, none⟩) n.size (cc Wc)) n.data.toList W (Row.mono (((hcb Wc).1).below hb) hb.size) (by rw [ba_len]; omega)).mono (fun e W' (q : e = .returned (.string ⟨(hexB n.data.toList).toArray⟩) ∧ Below W.heap.size W W') => (⟨q.1, h.next q.2, q.2⟩ : e = .returned (.string (hexS n)) ∧ BoxS w i n u W' ∧ Below W.heap.size W W')))
  have HJ : Hid (∀ W : World, BoxS w i n u W → Calls Tryz.prog 124 #[.slice (some ⟨W.heap.size, 0, none⟩) 3 3, .string ⟨#[46]⟩] (W.alloc (.cells #[.string (idS i), .string (hexS n), .string (idS u)] 9)) fun e W' => e = .returned (.string ⟨(textT ⟨i, n.data.toList, u⟩).toArray⟩) ∧ BoxS w i n u W') := by
    intro W h
    have hl1 := Lib.decDigits_length i.toNat
    have := decLen i.toNat (by omega)
    have := decLen u.toNat (by omega)
    refine (Join3_walk W.heap.size (three (idS i) (hexS n) (idS u)) (W.alloc (.cells #[.string (idS i), .string (hexS n), .string (idS u)] 9)) ?_ ?_ (by simp)).mono ?_
    · intro k hk
      match k, hk with
      | 0, _ => show (Lib.decDigits i.toNat).length ≤ _; omega
      | 1, _ => show (hexB n.data.toList).length ≤ _; rw [hexB_len, ba_len]; omega
      | 2, _ => show (Lib.decDigits u.toNat).length ≤ _; omega
    · intro k hk
      match k, hk with
      | 0, _ => go_simp; rfl
      | 1, _ => go_simp; rfl
      | 2, _ => go_simp; rfl
    · rintro e W' ⟨rfl, hb⟩
      rw [join_text]
      exact ⟨rfl, (h.alloc _).next hb⟩
  have HB0 : Hid (BoxS w i n u (w.alloc (sessO i n u))) := BoxS.start w i n u
  have hmf : ∀ (fn : Fn) (first cap : Array Value) (w : World), (Instr.makeFunc fn first cap).run Tryz.prog w = .ok (.func fn first cap) w := fun _ _ _ _ => rfl
  obtain ⟨T, hT⟩ : ∃ T, textT ⟨i, n.data.toList, u⟩ = T := ⟨_, rfl⟩
  have hTl : T.length ≤ 30000 := by
    have h1 := decLen i.toNat (by omega)
    have h2 := decLen u.toNat (by omega)
    rw [← hT]
    simp only [textT, List.length_append, List.length_cons, hexB_len, ba_len]
    omega
  obtain ⟨D, hD⟩ : ∃ D, sealW secret.data.toList T = D := ⟨_, rfl⟩
  have HDL : Hid (D.length = 32) := by show _ = _; rw [← hD]; exact sealW_len _ _
  have HM : Hid (madeT secret.data.toList ⟨i, n.data.toList, u⟩ = T ++ 46 :: hexB D) := by show _ = _; rw [madeT, hT, hD]
  have HSL := Lib.hid (fun (vs v : Value) (W : World) (h1 : Bytes W.heap.size W vs secret.data.toList) (h2 : Bytes W.heap.size W v T) => Sealed_walk vs v secret.data.toList T W h1 h2 (by rw [ba_len]; exact hs) (by omega))
  rw [hD] at HSL
  rw [hT] at HJ
  have HK := Lib.hid hk
  clear hT hD hcb hw hk
  go_enter Tryz.func123, Tryz.ntmps123
  go_upto_region 1 with fail
  go_cut [4] (fun t wx => t = .string ⟨T.toArray⟩ ∧ Hid (BoxS w i n u wx))
  case first =>
    refine wp_region_held_drew (S := BoxS w i n u) (by kernel_rfl) HB0.out.drew (fun hH => ?_)
    generalize (w.alloc (sessO i n u)).drew = W0 at hH ⊢
    refine wpAnyH_take (i := 0) (oi := { dst := some 6, op := Op.fieldAddr 90 (Operand.tmp 2) 0, type := 0, pos := "pass.go:73", after := #[], guard := none }) (v := .pointer (some ⟨w.heap.size, 0, none⟩)) rfl (by kernel_rfl) (by kernel_rfl) (by kernel_rfl) (fun _ _ _ h => h) (Or.inl ⟨by rfl, fun W hS => by go_simp⟩) hH ?_
    simp only [Act.put, List.setIfInBounds_toArray, List.set_cons_zero, List.set_cons_succ]
    refine wpAnyH_take (i := 1) (oi := { dst := some 7, op := Op.load 3 (Operand.tmp 6), type := 3, pos := "pass.go:73", after := #[{ on := 0, ground := Ground.data }], guard := none }) (v := .int .i64 i) rfl (by kernel_rfl) (by kernel_rfl) (by kernel_rfl) (fun _ _ _ h => h) (Or.inl ⟨by rfl, fun W hS => by obtain ⟨-, h0, -, -⟩ := hS; go_simp⟩) hH ?_
    simp only [Act.put, List.setIfInBounds_toArray, List.set_cons_zero, List.set_cons_succ]
    refine wpAnyH_take (i := 3) (oi := { dst := some 9, op := Op.fieldAddr 90 (Operand.tmp 2) 1, type := 0, pos := "pass.go:73", after := #[], guard := none }) (v := .pointer (some ⟨w.heap.size, 1, none⟩)) rfl (by kernel_rfl) (by kernel_rfl) (by kernel_rfl) (fun _ _ _ h => h) (Or.inl ⟨by rfl, fun W hS => by go_simp⟩) hH ?_
    simp only [Act.put, List.setIfInBounds_toArray, List.set_cons_zero, List.set_cons_succ]
    refine wpAnyH_take (i := 4) (oi := { dst := some 10, op := Op.load 9 (Operand.tmp 9), type := 9, pos := "pass.go:73", after := #[{ on := 3, ground := Ground.data }], guard := none }) (v := .string n) rfl (by kernel_rfl) (by kernel_rfl) (by kernel_rfl) (fun _ _ _ h => h) (Or.inl ⟨by rfl, fun W hS => by obtain ⟨-, -, h0, -⟩ := hS; go_simp⟩) hH ?_
    simp only [Act.put, List.setIfInBounds_toArray, List.set_cons_zero, List.set_cons_succ]
    refine wpAnyH_take (i := 7) (oi := { dst := some 13, op := Op.fieldAddr 90 (Operand.tmp 2) 2, type := 0, pos := "pass.go:73", after := #[], guard := none }) (v := .pointer (some ⟨w.heap.size, 2, none⟩)) rfl (by kernel_rfl) (by kernel_rfl) (by kernel_rfl) (fun _ _ _ h => h) (Or.inl ⟨by rfl, fun W hS => by go_simp⟩) hH ?_
    simp only [Act.put, List.setIfInBounds_toArray, List.set_cons_zero, List.set_cons_succ]
    refine wpAnyH_take (i := 8) (oi := { dst := some 14, op := Op.load 3 (Operand.tmp 13), type := 3, pos := "pass.go:73", after := #[{ on := 7, ground := Ground.data }], guard := none }) (v := .int .i64 u) rfl (by kernel_rfl) (by kernel_rfl) (by kernel_rfl) (fun _ _ _ h => h) (Or.inl ⟨by rfl, fun W hS => by obtain ⟨-, -, -, h0⟩ := hS; go_simp⟩) hH ?_
    simp only [Act.put, List.setIfInBounds_toArray, List.set_cons_zero, List.set_cons_succ]
    refine wpAnyH_ready (rs := [2, 5]) (by kernel_rfl) (by simp) ?_
    refine AllReadyH.cons (o := { dst := some 8, op := Op.call { callee := Callee.value (Operand.func 125), args := #[Operand.tmp 7], argTypes := #[3] }, type := 9, pos := "pass.go:73", after := #[{ on := 1, ground := Ground.data }], guard := none }) rfl (fun K hK => ?_) (AllReadyH.cons (o := { dst := some 11, op := Op.convert 9 152 (Operand.tmp 10), type := 152, pos := "pass.go:73", after := #[{ on := 4, ground := Ground.data }], guard := none }) rfl (fun K hK => ?_) AllReadyH.nil)
    · go_simp
      go_at_call 125
      refine (HI1.out _ hH).mono ?_
      rintro e W' ⟨rfl, hs, hb⟩
      go_wp2_with fail
      refine hK.out _ _ hs (fun hH => ?_)
      clear hK K
      try simp only [Act.put, List.setIfInBounds_toArray, List.set_cons_zero, List.set_cons_succ]
      refine wpAnyH_ready (rs := [5]) (by kernel_rfl) (by simp) ?_
      refine AllReadyH.cons (o := { dst := some 11, op := Op.convert 9 152 (Operand.tmp 10), type := 152, pos := "pass.go:73", after := #[{ on := 4, ground := Ground.data }], guard := none }) rfl (fun K hK => ?_) AllReadyH.nil
      go_simp
      refine hK.out _ _ (HSB.out _ hH) (fun hH => ?_)
      clear hK K
      try simp only [Act.put, List.setIfInBounds_toArray, List.set_cons_zero, List.set_cons_succ]
      refine wpAnyH_ready (rs := [6]) (by kernel_rfl) (by simp) ?_
      refine AllReadyH.cons (o := { dst := some 12, op := Op.call { callee := Callee.value (Operand.func 126), args := #[Operand.tmp 11], argTypes := #[152] }, type := 9, pos := "pass.go:73", after := #[{ on := 5, ground := Ground.data }, { on := 2, ground := Ground.chain }], guard := none }) rfl (fun K hK => ?_) AllReadyH.nil
      go_simp
      go_at_call 126
      refine (HX.out _ _ (by first | exact Below.refl _ _ | assumption) hH).mono ?_
      rintro e W' ⟨rfl, hs, hb⟩
      go_wp2_with fail
      refine hK.out _ _ hs (fun hH => ?_)
      clear hK K
      try simp only [Act.put, List.setIfInBounds_toArray, List.set_cons_zero, List.set_cons_succ]
      refine wpAnyH_ready (rs := [9]) (by kernel_rfl) (by simp) ?_
      refine AllReadyH.cons (o := { dst := some 15, op := Op.call { callee := Callee.value (Operand.func 125), args := #[Operand.tmp 14], argTypes := #[3] }, type := 9, pos := "pass.go:73", after := #[{ on := 8, ground := Ground.data }, { on := 6, ground := Ground.chain }], guard := none }) rfl (fun K hK => ?_) AllReadyH.nil
      go_simp
      go_at_call 125
      refine (HI2.out _ hH).mono ?_
      rintro e W' ⟨rfl, hs, hb⟩
      go_wp2_with fail
      refine hK.out _ _ hs (fun hH => ?_)
      clear hK K
      try simp only [Act.put, List.setIfInBounds_toArray, List.set_cons_zero, List.set_cons_succ]
      refine wpAnyH_ready (rs := [10]) (by kernel_rfl) (by simp) ?_
      refine AllReadyH.cons (o := { dst := some 16, op := Op.buildSlice 23 3 #[(0, Operand.tmp 8), (1, Operand.tmp 12), (2, Operand.tmp 15)], type := 23, pos := "pass.go:73", after := #[{ on := 2, ground := Ground.data }, { on := 6, ground := Ground.data }, { on := 9, ground := Ground.data }], guard := none }) rfl (fun K hK => ?_) AllReadyH.nil
      have hQ := hH
      go_simp
      refine hK.out _ _ (BoxS.alloc hH _) (fun hH => ?_)
      clear hK K
      try simp only [Act.put, List.setIfInBounds_toArray, List.set_cons_zero, List.set_cons_succ]
      refine wpAnyH_ready (rs := [11]) (by kernel_rfl) (by simp) ?_
      refine AllReadyH.cons (o := { dst := some 17, op := Op.call { callee := Callee.value (Operand.func 124), args := #[Operand.tmp 16, Operand.const (Value.string { data := #[46] })], argTypes := #[23, 9] }, type := 9, pos := "pass.go:73", after := #[{ on := 10, ground := Ground.data }, { on := 9, ground := Ground.chain }], guard := none }) rfl (fun K hK => ?_) AllReadyH.nil
      go_simp
      go_at_call 124
      refine (HJ.out _ hQ).mono ?_
      rintro e W' ⟨rfl, hs⟩
      go_wp2_with fail
      refine hK.out _ _ hs (fun hH => ?_)
      clear hK K
      try simp only [Act.put, List.setIfInBounds_toArray, List.set_cons_zero, List.set_cons_succ]
      refine wpAnyH_ready (rs := [12]) (by kernel_rfl) (by simp) ?_
      refine AllReadyH.cons (o := { dst := some 4, op := Op.assign (Operand.tmp 17), type := 9, pos := "pass.go:73", after := #[{ on := 11, ground := Ground.data }, { on := 11, ground := Ground.chain }, { on := 0, ground := Ground.phase }, { on := 1, ground := Ground.phase }, { on := 2, ground := Ground.phase }, { on := 3, ground := Ground.phase }, { on := 4, ground := Ground.phase }, { on := 5, ground := Ground.phase }, { on := 6, ground := Ground.phase }, { on := 7, ground := Ground.phase }, { on := 8, ground := Ground.phase }, { on := 9, ground := Ground.phase }, { on := 10, ground := Ground.phase }, { on := 11, ground := Ground.phase }], guard := none }) rfl (fun K hK => ?_) AllReadyH.nil
      go_simp
      refine hK.out _ _ hH (fun hH => ?_)
      clear hK K
      try simp only [Act.put, List.setIfInBounds_toArray, List.set_cons_zero, List.set_cons_succ]
      refine wpAnyH_done (by kernel_rfl) ?_ _
      go_wp2_with fail
      go_meet
      exact ⟨rfl, hH⟩
    · go_simp
      refine hK.out _ _ (HSB.out _ hH) (fun hH => ?_)
      clear hK K
      try simp only [Act.put, List.setIfInBounds_toArray, List.set_cons_zero, List.set_cons_succ]
      refine wpAnyH_ready (rs := [2]) (by kernel_rfl) (by simp) ?_
      refine AllReadyH.cons (o := { dst := some 8, op := Op.call { callee := Callee.value (Operand.func 125), args := #[Operand.tmp 7], argTypes := #[3] }, type := 9, pos := "pass.go:73", after := #[{ on := 1, ground := Ground.data }], guard := none }) rfl (fun K hK => ?_) AllReadyH.nil
      go_simp
      go_at_call 125
      refine (HI1.out _ hH).mono ?_
      rintro e W' ⟨rfl, hs, hb⟩
      go_wp2_with fail
      refine hK.out _ _ hs (fun hH => ?_)
      clear hK K
      try simp only [Act.put, List.setIfInBounds_toArray, List.set_cons_zero, List.set_cons_succ]
      refine wpAnyH_ready (rs := [6]) (by kernel_rfl) (by simp) ?_
      refine AllReadyH.cons (o := { dst := some 12, op := Op.call { callee := Callee.value (Operand.func 126), args := #[Operand.tmp 11], argTypes := #[152] }, type := 9, pos := "pass.go:73", after := #[{ on := 5, ground := Ground.data }, { on := 2, ground := Ground.chain }], guard := none }) rfl (fun K hK => ?_) AllReadyH.nil
      go_simp
      go_at_call 126
      refine (HX.out _ _ (by first | exact Below.refl _ _ | assumption) hH).mono ?_
      rintro e W' ⟨rfl, hs, hb⟩
      go_wp2_with fail
      refine hK.out _ _ hs (fun hH => ?_)
      clear hK K
      try simp only [Act.put, List.setIfInBounds_toArray, List.set_cons_zero, List.set_cons_succ]
      refine wpAnyH_ready (rs := [9]) (by kernel_rfl) (by simp) ?_
      refine AllReadyH.cons (o := { dst := some 15, op := Op.call { callee := Callee.value (Operand.func 125), args := #[Operand.tmp 14], argTypes := #[3] }, type := 9, pos := "pass.go:73", after := #[{ on := 8, ground := Ground.data }, { on := 6, ground := Ground.chain }], guard := none }) rfl (fun K hK => ?_) AllReadyH.nil
      go_simp
      go_at_call 125
      refine (HI2.out _ hH).mono ?_
      rintro e W' ⟨rfl, hs, hb⟩
      go_wp2_with fail
      refine hK.out _ _ hs (fun hH => ?_)
      clear hK K
      try simp only [Act.put, List.setIfInBounds_toArray, List.set_cons_zero, List.set_cons_succ]
      refine wpAnyH_ready (rs := [10]) (by kernel_rfl) (by simp) ?_
      refine AllReadyH.cons (o := { dst := some 16, op := Op.buildSlice 23 3 #[(0, Operand.tmp 8), (1, Operand.tmp 12), (2, Operand.tmp 15)], type := 23, pos := "pass.go:73", after := #[{ on := 2, ground := Ground.data }, { on := 6, ground := Ground.data }, { on := 9, ground := Ground.data }], guard := none }) rfl (fun K hK => ?_) AllReadyH.nil
      have hQ := hH
      go_simp
      refine hK.out _ _ (BoxS.alloc hH _) (fun hH => ?_)
      clear hK K
      try simp only [Act.put, List.setIfInBounds_toArray, List.set_cons_zero, List.set_cons_succ]
      refine wpAnyH_ready (rs := [11]) (by kernel_rfl) (by simp) ?_
      refine AllReadyH.cons (o := { dst := some 17, op := Op.call { callee := Callee.value (Operand.func 124), args := #[Operand.tmp 16, Operand.const (Value.string { data := #[46] })], argTypes := #[23, 9] }, type := 9, pos := "pass.go:73", after := #[{ on := 10, ground := Ground.data }, { on := 9, ground := Ground.chain }], guard := none }) rfl (fun K hK => ?_) AllReadyH.nil
      go_simp
      go_at_call 124
      refine (HJ.out _ hQ).mono ?_
      rintro e W' ⟨rfl, hs⟩
      go_wp2_with fail
      refine hK.out _ _ hs (fun hH => ?_)
      clear hK K
      try simp only [Act.put, List.setIfInBounds_toArray, List.set_cons_zero, List.set_cons_succ]
      refine wpAnyH_ready (rs := [12]) (by kernel_rfl) (by simp) ?_
      refine AllReadyH.cons (o := { dst := some 4, op := Op.assign (Operand.tmp 17), type := 9, pos := "pass.go:73", after := #[{ on := 11, ground := Ground.data }, { on := 11, ground := Ground.chain }, { on := 0, ground := Ground.phase }, { on := 1, ground := Ground.phase }, { on := 2, ground := Ground.phase }, { on := 3, ground := Ground.phase }, { on := 4, ground := Ground.phase }, { on := 5, ground := Ground.phase }, { on := 6, ground := Ground.phase }, { on := 7, ground := Ground.phase }, { on := 8, ground := Ground.phase }, { on := 9, ground := Ground.phase }, { on := 10, ground := Ground.phase }, { on := 11, ground := Ground.phase }], guard := none }) rfl (fun K hK => ?_) AllReadyH.nil
      go_simp
      refine hK.out _ _ hH (fun hH => ?_)
      clear hK K
      try simp only [Act.put, List.setIfInBounds_toArray, List.set_cons_zero, List.set_cons_succ]
      refine wpAnyH_done (by kernel_rfl) ?_ _
      go_wp2_with fail
      go_meet
      exact ⟨rfl, hH⟩
  case rest =>
    obtain ⟨rfl, hS⟩ := hcut
    have HSS := Lib.hid hS.out.below
    have k0 : wc.cell? ⟨g, 0, none⟩ = some (.string secret) := (HSS.out.cell (p := ⟨g, 0, none⟩) hg).trans HK.out
    obtain ⟨v1, c1, w4, cv4, bt4, bl4, sz4⟩ := bytesOf wc secret
    obtain ⟨v2, c2, w5, cv5, bt5, bl5, sz5⟩ := bytesOf w4 ⟨T.toArray⟩
    have HSL5 := Lib.hid (HSL.out _ _ w5 (Row.mono (Bytes.below (Row.mono bt4 (by omega)) bl5) (by omega)) (Row.mono bt5 (by omega)))
    have HW5 := Lib.hid (HSS.out.trans ((below_two bl4 bl5).mono HSS.out.size))
    clear bt4 bl4 sz4 bt5 bl5 sz5 hS HSL
    have hl1 : ¬ 9223372036854775807 < T.length + 1 := by omega
    go_wp2_with fail
    refine HSL5.out.mono ?_
    rintro e w6 ⟨rfl, hb6⟩
    have HW6 := Lib.hid (HW5.out.trans (hb6.mono HW5.out.size))
    have HT := Lib.hid (store32 w6 D HDL.out)
    clear hb6 HSL5 HW5
    have tok1 : True := trivial
    go_wp2_with (have _t := tok1; refine wpList_store_mid (by rfl) 214 _ _ (by rfl) w6.heap.size 0 (D.map bv).toArray (by rfl) (by rfl) HT.out.1 (info32 HDL.out) (bytes_one D) ?_; clear tok1 _t; generalize hW : World.setCells _ w6.heap.size 0 (D.map bv).toArray.toList = wz; have hA1 : Hid (Arr wz w6.heap.size 214 (D.map bv)) := (by rw [← hW]; exact HT.out.2.1 : Arr _ _ _ _); have hB3 : Hid (Below w6.heap.size w6 wz) := (by rw [← hW]; exact HT.out.2.2.1 : Below _ _ _); clear hW HT)
    have HX2 := Lib.hid (Hex_walk (.slice (some ⟨w6.heap.size, 0, none⟩) 32 32) D wz (hA1.out.bytes HDL.out hA1.out.lt) (by have := HDL.out; omega))
    have HWZ := Lib.hid (HW6.out.trans (hB3.out.mono HW6.out.size))
    have hxl : (hexB D).length = 64 := by rw [hexB_len, HDL.out]
    have hl2 : ¬ 9223372036854775807 < T.length + 1 + (hexB D).length := by omega
    clear hA1 hB3 HW6 hxl
    refine HX2.out.mono ?_
    rintro e w7 ⟨rfl, hb7⟩
    have HB7 := Lib.hid (HWZ.out.trans (hb7.mono HWZ.out.size))
    clear hb7 HX2 HWZ
    go_wp2_with fail
    go_ret
    refine ⟨?_, HB7.out⟩
    rw [HM.out, show T ++ 46 :: hexB D = (T ++ [46]) ++ hexB D by simp, ← ba_app, ← ba_app]
    rfl
end Go.Proofs.YtinijohmdljieaaGreatDoor

namespace Go.Proofs.YtinijohmdljieaaGreatDoor
open Go.RowKit

theorem bits_or_comm (k : IntKind) (a b : Int) : bits .or k a b = bits .or k b a := by
  show k.wrap ((BitVec.ofInt k.bits a ||| BitVec.ofInt k.bits b).toNat : Int) = k.wrap ((BitVec.ofInt k.bits b ||| BitVec.ofInt k.bits a).toNat : Int)
  rw [BitVec.or_comm]
set_option maxHeartbeats 1000000 in
theorem turn_walk (n : Nat) (h0 : 0 < n) (h1 : n < 32) (x : Int) (w : World) : Calls Tryz.prog 211 #[.int .u32 x, .int .u32 n] w fun e w' => e = .returned (.int .u32 (ror x n)) ∧ w' = w := by
  have hb : IntKind.u32.wrap (32 - (n : Int)) = ((32 - n : Nat) : Int) := by rw [wrap_u32 (by omega) (by omega)]; omega
  have i1 : (0 : Int) ≤ (n : Int) := by omega
  have i2 : (n : Int) < 32 := by omega
  have e1 : (32 : Int) - (n : Int) = ((32 - n : Nat) : Int) := by omega
  go_enter Tryz.func211, Tryz.ntmps211
  go_wp2
  go_ret
  refine ⟨?_, rfl⟩
  rw [ror, bits_or_comm]
  simp
theorem turn_any (x z : Int) (h : 0 < z ∧ z < 32) (w : World) : Calls Tryz.prog 211 #[.int .u32 x, .int .u32 z] w fun e w' => e = .returned (.int .u32 (rorZ x z)) ∧ w' = w := by
  have := turn_walk z.toNat (by omega) (by omega) x w
  rwa [show ((z.toNat : Nat) : Int) = z by omega] at this

set_option maxHeartbeats 2000000 in
set_option maxRecDepth 100000 in
theorem word_walk (bb bo c n k : Nat) (m0 m1 m2 m3 : Int) (w : World) (hk : 4 * k + 3 < n) (hn : n ≤ 1048576)
    (x0 : w.cell? ⟨bb, bo + 4 * k, none⟩ = some (.int .u8 m0)) (x1 : w.cell? ⟨bb, bo + (4 * k + 1), none⟩ = some (.int .u8 m1)) (x2 : w.cell? ⟨bb, bo + (4 * k + 2), none⟩ = some (.int .u8 m2)) (x3 : w.cell? ⟨bb, bo + (4 * k + 3), none⟩ = some (.int .u8 m3))
    (r0 : 0 ≤ m0 ∧ m0 < 256) (r1 : 0 ≤ m1 ∧ m1 < 256) (r2 : 0 ≤ m2 ∧ m2 < 256) (r3 : 0 ≤ m3 ∧ m3 < 256) :
    Calls Tryz.prog 210 #[.slice (some ⟨bb, bo, none⟩) n c, .int .i64 (4 * (k : Int))] w fun e w' => e = .returned (vw (word4 m0 m1 m2 m3)) ∧ ∃ q, w' = w.drewN q := by
  have g1 : (0 : Int) ≤ 4 * (k : Int) := by omega
  have g2 : 4 * (k : Int) < (n : Int) := by omega
  have g3 : 4 * (k : Int) + 1 < (n : Int) := by omega
  have g4 : 4 * (k : Int) + 2 < (n : Int) := by omega
  have g5 : 4 * (k : Int) + 3 < (n : Int) := by omega
  have q2 : (0 : Int) ≤ 4 * (k : Int) + 1 := by omega
  have q3 : (0 : Int) ≤ 4 * (k : Int) + 2 := by omega
  have q4 : (0 : Int) ≤ 4 * (k : Int) + 3 := by omega
  have u2 : IntKind.i64.wrap (4 * (k : Int) + 1) = 4 * (k : Int) + 1 := wrap_i64 (by omega) (by omega)
  have u3 : IntKind.i64.wrap (4 * (k : Int) + 2) = 4 * (k : Int) + 2 := wrap_i64 (by omega) (by omega)
  have u4 : IntKind.i64.wrap (4 * (k : Int) + 3) = 4 * (k : Int) + 3 := wrap_i64 (by omega) (by omega)
  have t1 : (4 * (k : Int)).toNat = 4 * k := by omega
  have t2 : (4 * (k : Int) + 1).toNat = 4 * k + 1 := by omega
  have t3 : (4 * (k : Int) + 2).toNat = 4 * k + 2 := by omega
  have t4 : (4 * (k : Int) + 3).toNat = 4 * k + 3 := by omega
  have v0 : IntKind.u32.wrap m0 = m0 := wrap_u32 (by omega) (by omega)
  have v1 : IntKind.u32.wrap m1 = m1 := wrap_u32 (by omega) (by omega)
  have v2 : IntKind.u32.wrap m2 = m2 := wrap_u32 (by omega) (by omega)
  have v3 : IntKind.u32.wrap m3 = m3 := wrap_u32 (by omega) (by omega)
  have v4 : IntKind.u32.wrap (m0 * 16777216) = m0 * 16777216 := wrap_u32 (by omega) (by omega)
  have v5 : IntKind.u32.wrap (m1 * 65536) = m1 * 65536 := wrap_u32 (by omega) (by omega)
  have v6 : IntKind.u32.wrap (m2 * 256) = m2 * 256 := wrap_u32 (by omega) (by omega)
  go_enter Tryz.func210, Tryz.ntmps210
  go_wp2
  go_quiet (fail)
  go_wp2
  go_ret
  exact ⟨rfl, _, rfl⟩

theorem refFirst_walk (w : World) : Calls Tryz.prog 194 #[] w fun e w' => e = .returned (.agg hArr) ∧ Below w.heap.size w w' := by
  go_enter Tryz.func194, Tryz.ntmps194
  go_wp2
  exact ret_arr Tryz.results194 rfl rfl (Arr.new w (H0.map vw) 274) Tryz.underlying274 rfl (by kernel_rfl) ⟨rfl, (Below.refl _ _).alloc (Nat.le_refl _) _⟩
set_option maxHeartbeats 1000000 in
set_option maxRecDepth 100000 in
theorem refSteps_walk (w : World) : Calls Tryz.prog 195 #[] w fun e w' => e = .returned (.agg kArr) ∧ Below w.heap.size w w' := by
  have hA0 : Arr (w.alloc (.cells (List.replicate 64 (vw 0)).toArray 277)) w.heap.size 277 (List.replicate 64 (vw 0)) := Arr.new w _ _
  have HT : Hid ((w.alloc (.cells (List.replicate 64 (vw 0)).toArray 277)).there w.heap.size 0 kArr.size) := hA0.there (by simp [kArr, K64])
  have HI : Hid ((Tryz.prog.info? 277).map (·.size) = some kArr.size) := by show _ = _; kernel_rfl
  have HO : Hid (kArr.all (·.oneCell') = true) := all_oneCell_toArray (by intro v hv; obtain ⟨x, -, rfl⟩ := List.mem_map.1 hv; rfl)
  have HA := Lib.hid hA0
  have HB : Hid (Below w.heap.size w (w.alloc (.cells (List.replicate 64 (vw 0)).toArray 277))) := (Below.refl _ _).alloc (Nat.le_refl _) _
  clear hA0
  go_enter Tryz.func195, Tryz.ntmps195
  go_wp2_with (first | (refine wpList_build_known (by rfl) 277 _ (by rfl) (v := .agg kArr) (fun W => by kernel_rfl) ?_) | (refine wpList_store_mid (by rfl) 277 _ _ (by rfl) w.heap.size 0 kArr (by rfl) (by rfl) HT.out HI.out HO.out ?_))
  have h1 := HA.out.store (new := kArr.toList) (by simp [kArr, K64])
  have h2 := below_cells (b := w.heap.size) (Nat.le_refl _) kArr.toList 0 HB.out
  go_wp2
  exact ret_arr Tryz.results195 rfl rfl h1 Tryz.underlying277 rfl (by kernel_rfl) ⟨rfl, h2⟩
end Go.Proofs.YtinijohmdljieaaGreatDoor
