/- docketref21: Token, Read. -/
import Derived.Test.YtinijohmdljieaaGreatDoorH17
import Derived.Test.YtinijohmdljieaaGreatDoorH18
import Derived.Test.YtinijohmdljieaaGreatDoorRead
namespace Go.Proofs.YtinijohmdljieaaGreatDoor
open Go.RowKit

theorem empty_of (s : ByteArray) : s.toList.isEmpty = decide (s.size = 0) := by
  rw [ba_empty, Bool.eq_iff_iff]
  simp only [List.isEmpty_iff, decide_eq_true_eq]
  constructor
  · intro h; rw [← ba_len, h]; rfl
  · intro h; exact List.eq_nil_of_length_eq_zero (by rw [ba_len]; omega)

/-- what a cut is -/
def CutIs (L : List UInt8) (f : Nat) (x : ByteArray) (at' : Nat) (b : Bool) : Prop :=
  (b = true ∧ L.drop f = x.data.toList ++ 46 :: L.drop at' ∧ 46 ∉ x.data.toList) ∨ (b = false ∧ 46 ∉ L.drop f ∧ x = ⟨#[]⟩ ∧ at' = 0)
theorem cut2_walk (s : ByteArray) (f : Nat) (w : World) (hs : s.size ≤ 1000000) (hf : f ≤ s.size) :
    Calls Tryz.prog 83 #[.string s, .int .i64 (f : Int)] w fun e w' => ∃ (x : ByteArray) (g : Nat) (b : Bool), e = .returned (.tuple #[.string x, .int .i64 (g : Int), .bool b]) ∧ CutIs s.data.toList f x g b ∧ g ≤ s.size ∧ x.size ≤ s.size ∧ w = w' := by
  refine (cut_walk s f w hs hf).mono ?_
  rintro e w' ⟨⟨a, r, h1, h2, rfl⟩ | ⟨h1, rfl⟩, rfl⟩
  · have hl := congrArg List.length h1
    rw [List.length_drop, List.length_append, List.length_cons, ba_len] at hl
    refine ⟨⟨a.toArray⟩, f + a.length + 1, true, rfl, .inl ⟨rfl, ?_, h2⟩, by omega, by show a.length ≤ _; omega, rfl⟩
    have h3 : s.data.toList.drop (f + a.length + 1) = r := by
      rw [show f + a.length + 1 = f + (a.length + 1) by omega, ← List.drop_drop, h1]
      simp
    rw [h3, h1]
  · exact ⟨⟨#[]⟩, 0, false, rfl, .inr ⟨rfl, h1, rfl, rfl⟩, by omega, Nat.zero_le _, rfl⟩
/-- a token that was made, cut by the reference -/
theorem cut_made {L : List UInt8} {k : List UInt8} {t : Sess} {x0 x1 x2 : ByteArray} {g0 g1 g2 : Nat} {b0 b1 b2 : Bool} (hm : madeT k t = L) (h0 : CutIs L 0 x0 g0 b0) (h1 : CutIs L g0 x1 g1 b1) (h2 : CutIs L g1 x2 g2 b2) :
    b0 = true ∧ b1 = true ∧ b2 = true ∧ x0.data.toList = Lib.decDigits t.id.toNat ∧ x1.data.toList = hexB t.user ∧ x2.data.toList = Lib.decDigits t.untl.toNat := by
  rw [madeT_parts] at hm
  rcases h0 with ⟨rfl, e0, n0⟩ | ⟨-, n0, -⟩
  · rw [List.drop_zero, ← hm] at e0
    obtain ⟨f0, e0⟩ := point_inj (dec_nop _) n0 e0
    rcases h1 with ⟨rfl, e1, n1⟩ | ⟨-, n1, -⟩
    · rw [← hm] at e1
      rw [hm] at e0
      rw [hm, ← e0] at e1
      obtain ⟨f1, e1⟩ := point_inj (hex_nop _) n1 e1
      rcases h2 with ⟨rfl, e2, n2⟩ | ⟨-, n2, -⟩
      · rw [← e1] at e2
        obtain ⟨f2, -⟩ := point_inj (dec_nop _) n2 e2
        exact ⟨rfl, rfl, rfl, f0.symm, f1.symm, f2.symm⟩
      · rw [← e1] at n2; exact absurd (by simp) n2
    · rw [hm] at e0
      rw [← e0] at n1; exact absurd (by simp) n1
  · rw [List.drop_zero, ← hm] at n0; exact absurd (by simp) n0
theorem refUnhex2_walk (s : ByteArray) (w : World) (hs : s.size ≤ 1000000) :
    Calls Tryz.prog 71 #[.string s] w fun e w' => ∃ (a : Option Addr) (n c : Nat) (us : ByteArray) (ec : Int), e = .returned (.tuple #[.slice a n c, .int .i64 ec]) ∧ (∀ W, Below w'.heap.size w' W → (convert 152 9 (.slice a n c)).run Tryz.prog W = .ok (.string us) W) ∧ ((unhex s.data.toList = some us.data.toList ∧ ec = 0) ∨ (unhex s.data.toList = none ∧ (ec != 0) = true)) ∧ us.size ≤ s.size ∧ Below w.heap.size w w' := by
  refine (refUnhex_walk s w hs).mono ?_
  rintro e w' ⟨⟨h, rfl⟩ | ⟨b, va, vc, n, h, rfl, hG⟩, hb⟩
  · exact ⟨none, 0, 0, ⟨#[]⟩, 3, rfl, fun W _ => stringOf (Bytes.nil 0 W), .inr ⟨h, rfl⟩, Nat.zero_le _, hb⟩
  · refine ⟨va, n, vc, ⟨b.toArray⟩, 0, rfl, fun W hW => stringOf (hG.bytes.below hW), .inl ⟨h, rfl⟩, ?_, hb⟩
    have := unhex_len2 h
    rw [ba_len] at this
    exact this
theorem ret_refRead {g : Nat} {w : World} {a : Act} {u0 u1 u2 v : Value} {R : Ending → World → Prop} (hp : a.tmps.getD 6 undef = .pointer (some ⟨g, 0, none⟩)) (hv : a.tmps.getD 7 undef = v) (hd : a.defers = [])
    (h0 : w.cell? ⟨g, 0, none⟩ = some u0) (h1 : w.cell? ⟨g, 1, none⟩ = some u1) (h2 : w.cell? ⟨g, 2, none⟩ = some u2)
    (hR : R (.returned (.tuple #[.agg #[u0, u1, u2], v])) w) : bodyPost Tryz.prog Tryz.f42 R .ret a w := by
  refine bodyPost_ret ?_ hd hR
  subst hv
  have hp' : a.tmps[6]?.getD undef = .pointer (some ⟨g, 0, none⟩) := by simpa using hp
  simp [results, Tryz.results42, hp', go_sem, h0, h1, h2]

set_option maxHeartbeats 8000000 in
set_option maxRecDepth 100000 in
theorem refRead_walk (secret token : ByteArray) (clock : Int) (w : World) (ht : token.size ≤ 900000) :
    Calls Tryz.prog 42 #[.string secret, .string token, .int .i64 clock] w (ReadEnd secret token clock w) := by
  have hB0 : BoxS w 0 ⟨#[]⟩ 0 (w.alloc (sessO 0 ⟨#[]⟩ 0)) := BoxS.start w 0 ⟨#[]⟩ 0
  have HB0 := Lib.hid hB0
  have he := empty_of secret
  by_cases h0 : secret.size = 0
  · have hk : ¬ (0 < secret.data.toList.length ∧ secret.data.toList.length ≤ 64) := by rw [ba_len]; omega
    have HR : Hid (ReadIs secret.data.toList token.data.toList clock zeroS 3) := by show ReadIs _ _ _ _ _; unfold ReadIs; rw [if_pos hk]; exact ⟨rfl, rfl⟩
    rw [decide_eq_true h0] at he
    clear ht hk h0 hB0
    go_enter Tryz.func42, Tryz.ntmps42
    go_wp2_with fail
    refine ret_refRead (g := w.heap.size) (u0 := .int .i64 0) (u1 := .string ⟨#[]⟩) (u2 := .int .i64 0) rfl rfl rfl (by go_simp) (by go_simp) (by go_simp) ?_
    exact read_zero HR.out (by first | exact HB0.out.below | exact below3 HB0.out.below (Nat.le_refl _) _ _ _)
  rw [decide_eq_false h0] at he
  by_cases h64 : 64 < secret.size
  · have hk : ¬ (0 < secret.data.toList.length ∧ secret.data.toList.length ≤ 64) := by rw [ba_len]; omega
    have HR : Hid (ReadIs secret.data.toList token.data.toList clock zeroS 3) := by show ReadIs _ _ _ _ _; unfold ReadIs; rw [if_pos hk]; exact ⟨rfl, rfl⟩
    have d1 : decide (64 < (secret.size : Int)) = true := decide_eq_true (by omega)
    clear ht hk h0 hB0
    go_enter Tryz.func42, Tryz.ntmps42
    go_wp2_with fail
    refine ret_refRead (g := w.heap.size) (u0 := .int .i64 0) (u1 := .string ⟨#[]⟩) (u2 := .int .i64 0) rfl rfl rfl (by go_simp) (by go_simp) (by go_simp) ?_
    exact read_zero HR.out (by first | exact HB0.out.below | exact below3 HB0.out.below (Nat.le_refl _) _ _ _)
  have d1 : decide (64 < (secret.size : Int)) = false := decide_eq_false (by omega)
  have hk : 0 < secret.data.toList.length ∧ secret.data.toList.length ≤ 64 := by rw [ba_len]; omega
  have HK := Lib.hid hk
  have hss : secret.size ≤ 64 := by omega
  clear hk h64 h0
  by_cases hc1 : clock < 0
  · have HR : Hid (ReadIs secret.data.toList token.data.toList clock zeroS 2) := by show ReadIs _ _ _ _ _; unfold ReadIs; rw [if_neg (fun q => q HK.out), if_pos (.inl hc1)]; exact ⟨rfl, rfl⟩
    have d2 : decide (clock < 0) = true := decide_eq_true hc1
    clear ht hB0
    go_enter Tryz.func42, Tryz.ntmps42
    go_wp2_with fail
    refine ret_refRead (g := w.heap.size) (u0 := .int .i64 0) (u1 := .string ⟨#[]⟩) (u2 := .int .i64 0) rfl rfl rfl (by go_simp) (by go_simp) (by go_simp) ?_
    exact read_zero HR.out (by first | exact HB0.out.below | exact below3 HB0.out.below (Nat.le_refl _) _ _ _)
  by_cases hc2 : 1099511627776 < clock
  · have HR : Hid (ReadIs secret.data.toList token.data.toList clock zeroS 2) := by show ReadIs _ _ _ _ _; unfold ReadIs; rw [if_neg (fun q => q HK.out), if_pos (.inr hc2)]; exact ⟨rfl, rfl⟩
    have d2 : decide (clock < 0) = false := decide_eq_false hc1
    have d3 : decide (1099511627776 < clock) = true := decide_eq_true hc2
    clear ht hB0
    go_enter Tryz.func42, Tryz.ntmps42
    go_wp2_with fail
    refine ret_refRead (g := w.heap.size) (u0 := .int .i64 0) (u1 := .string ⟨#[]⟩) (u2 := .int .i64 0) rfl rfl rfl (by go_simp) (by go_simp) (by go_simp) ?_
    exact read_zero HR.out (by first | exact HB0.out.below | exact below3 HB0.out.below (Nat.le_refl _) _ _ _)
  have d2 : decide (clock < 0) = false := decide_eq_false hc1
  have d3 : decide (1099511627776 < clock) = false := decide_eq_false hc2
  have HC := Lib.hid (fun (f : Nat) (hf : f ≤ token.size) (W : World) => cut2_walk token f W (by omega) hf)
  clear hB0
  go_enter Tryz.func42, Tryz.ntmps42
  go_wp2_with fail
  refine (HC.out 0 (Nat.zero_le _) _).mono ?_
  rintro e w1 ⟨x0, g0, b0, rfl, hc0, hg0, hx0, rfl⟩
  have HC0 := Lib.hid hc0
  clear hc0
  go_wp2_with fail
  refine (HC.out g0 hg0 _).mono ?_
  rintro e w1 ⟨x1, g1, b1, rfl, hc1', hg1, hx1, rfl⟩
  have HC1 := Lib.hid hc1'
  clear hc1'
  go_wp2_with fail
  refine (HC.out g1 hg1 _).mono ?_
  rintro e w1 ⟨x2, g2, b2, rfl, hc2', -, hx2, rfl⟩
  have HC2 := Lib.hid hc2'
  clear hc2' hg0 hg1 HC
  go_wp2_with fail
  refine (refUnhex2_walk x1 _ (by omega)).mono ?_
  rintro e wU ⟨ua, un, uc, us, ec, rfl, hcv, hU, husz, hbU⟩
  have hBR := HB0.out.next hbU
  obtain ⟨-, y0, y1, y2⟩ := id hBR
  have hf := hBR.frozen
  have HBR := Lib.hid hBR
  have HU := Lib.hid hU
  have HCV := Lib.hid hcv
  have HMADE := Lib.hid (fun (t : Sess) (hm : madeT secret.data.toList t = token.data.toList) => cut_made hm HC0.out HC1.out HC2.out)
  clear hBR hU hcv hbU HC0 HC1 HC2 HB0
  have hbadR : ∀ (h : ∀ t, sessB t → madeT secret.data.toList t ≠ token.data.toList), ReadIs secret.data.toList token.data.toList clock zeroS 211 := fun h => readIs_none HK.out (by omega) (by omega) h
  have HBADR := Lib.hid hbadR
  clear hbadR
  cases b0
  · have HR : Hid (ReadIs secret.data.toList token.data.toList clock zeroS 211) := HBADR.out (fun t _ h => by cases (HMADE.out t h).1)
    go_wp2_with fail
    refine ret_refRead (g := w.heap.size) (u0 := .int .i64 0) (u1 := .string ⟨#[]⟩) (u2 := .int .i64 0) rfl rfl rfl (by go_simp) (by go_simp) (by go_simp) ?_
    exact read_zero HR.out (by first | exact HBR.out.below | exact below3 HBR.out.below (Nat.le_refl _) _ _ _)
  cases b1
  · have HR : Hid (ReadIs secret.data.toList token.data.toList clock zeroS 211) := HBADR.out (fun t _ h => by cases (HMADE.out t h).2.1)
    go_wp2_with fail
    refine ret_refRead (g := w.heap.size) (u0 := .int .i64 0) (u1 := .string ⟨#[]⟩) (u2 := .int .i64 0) rfl rfl rfl (by go_simp) (by go_simp) (by go_simp) ?_
    exact read_zero HR.out (by first | exact HBR.out.below | exact below3 HBR.out.below (Nat.le_refl _) _ _ _)
  cases b2
  · have HR : Hid (ReadIs secret.data.toList token.data.toList clock zeroS 211) := HBADR.out (fun t _ h => by cases (HMADE.out t h).2.2.1)
    go_wp2_with fail
    refine ret_refRead (g := w.heap.size) (u0 := .int .i64 0) (u1 := .string ⟨#[]⟩) (u2 := .int .i64 0) rfl rfl rfl (by go_simp) (by go_simp) (by go_simp) ?_
    exact read_zero HR.out (by first | exact HBR.out.below | exact below3 HBR.out.below (Nat.le_refl _) _ _ _)
  by_cases hul : 64 < (x1.size : Int)
  · have HR : Hid (ReadIs secret.data.toList token.data.toList clock zeroS 211) := HBADR.out (fun t hs h => by
      have h1 := (HMADE.out t h).2.2.2.2.1
      have h2 := named_len hs.2.2.1
      have h3 := congrArg List.length h1
      rw [ba_len, hexB_len] at h3
      omega)
    have d4 : decide (64 < (x1.size : Int)) = true := decide_eq_true hul
    go_wp2_with fail
    refine ret_refRead (g := w.heap.size) (u0 := .int .i64 0) (u1 := .string ⟨#[]⟩) (u2 := .int .i64 0) rfl rfl rfl (by go_simp) (by go_simp) (by go_simp) ?_
    exact read_zero HR.out (by first | exact HBR.out.below | exact below3 HBR.out.below (Nat.le_refl _) _ _ _)
  have d4 : decide (64 < (x1.size : Int)) = false := decide_eq_false hul
  rcases HU.out with ⟨hu, rfl⟩ | ⟨hu, hec⟩
  rotate_left
  · have HR : Hid (ReadIs secret.data.toList token.data.toList clock zeroS 211) := HBADR.out (fun t _ h => by
      have h1 := (HMADE.out t h).2.2.2.2.1
      rw [h1, unhex_hex] at hu
      cases hu)
    clear hu
    go_wp2_with fail
    refine ret_refRead (g := w.heap.size) (u0 := .int .i64 0) (u1 := .string ⟨#[]⟩) (u2 := .int .i64 0) rfl rfl rfl (by go_simp) (by go_simp) (by go_simp) ?_
    exact read_zero HR.out (by first | exact HBR.out.below | exact below3 HBR.out.below (Nat.le_refl _) _ _ _)
  obtain ⟨v0, hv0⟩ : ∃ v, numberB x0.data.toList = v := ⟨_, rfl⟩
  obtain ⟨v2, hv2⟩ : ∃ v, numberB x2.data.toList = v := ⟨_, rfl⟩
  have HN0 := Lib.hid (fun W => number_walk x0 W (by omega))
  have HN2 := Lib.hid (fun W => number_walk x2 W (by omega))
  rw [hv0] at HN0
  rw [hv2] at HN2
  have HEQ : Hid (∀ t, sessB t → madeT secret.data.toList t = token.data.toList → (⟨v0, us.data.toList, v2⟩ : Sess) = t) := fun t ht hm => by
    obtain ⟨-, -, -, e0, e1, e2⟩ := HMADE.out t hm
    obtain ⟨q1, q2, q3, q4, q5⟩ := ht
    rw [e1, unhex_hex] at hu
    injection hu with hu
    have r0 := number_dec t.id.toNat (by omega)
    have r2 := number_dec t.untl.toNat (by omega)
    rw [← e0, hv0] at r0
    rw [← e2, hv2] at r2
    replace r0 : v0 = t.id := by rw [r0]; omega
    replace r2 : v2 = t.untl := by rw [r2]; omega
    rw [r0, r2, ← hu]
  clear hu hv0 hv2 HU HMADE hx0 hx1 hx2 y0 y1 y2 hf
  go_upto_region 11 with fail
  go_cut [19] (fun t wx => ∃ W0 : World, t = .pointer (some ⟨W0.heap.size, 0, none⟩) ∧ BoxS W0 v0 us v2 wx ∧ Below wU.heap.size wU W0)
  case first =>
    refine wp_region_held_drew (S := fun W => Below wU.heap.size wU W) (by kernel_rfl) (Below.refl _ _).drew (fun hH => ?_)
    generalize wU.drew = Wd at hH ⊢
    refine wpAnyH_take (i := 0) (oi := { dst := some 80, op := Op.move (Operand.tmp 8), type := 9, pos := "ref.go:147", after := #[], guard := none }) (v := .string x0) rfl (by kernel_rfl) (by kernel_rfl) (by kernel_rfl) (fun _ _ _ h => h) (Or.inl ⟨by rfl, fun W hS => by go_simp⟩) hH ?_
    simp only [Act.put, List.setIfInBounds_toArray, List.set_cons_zero, List.set_cons_succ]
    refine wpAnyH_take (i := 2) (oi := { dst := some 82, op := Op.move (Operand.tmp 17), type := 152, pos := "ref.go:147", after := #[], guard := none }) (v := .slice ua un uc) rfl (by kernel_rfl) (by kernel_rfl) (by kernel_rfl) (fun _ _ _ h => h) (Or.inl ⟨by rfl, fun W hS => by go_simp⟩) hH ?_
    simp only [Act.put, List.setIfInBounds_toArray, List.set_cons_zero, List.set_cons_succ]
    refine wpAnyH_take (i := 3) (oi := { dst := some 83, op := Op.convert 152 9 (Operand.tmp 82), type := 9, pos := "ref.go:147", after := #[{ on := 2, ground := Ground.data }], guard := none }) (v := .string us) rfl (by kernel_rfl) (by kernel_rfl) (by kernel_rfl) (fun _ _ _ h => h) (Or.inl ⟨by rfl, fun W hS => by have hcv := HCV.out W hS; go_simp⟩) hH ?_
    simp only [Act.put, List.setIfInBounds_toArray, List.set_cons_zero, List.set_cons_succ]
    refine wpAnyH_take (i := 4) (oi := { dst := some 84, op := Op.move (Operand.tmp 14), type := 9, pos := "ref.go:147", after := #[], guard := none }) (v := .string x2) rfl (by kernel_rfl) (by kernel_rfl) (by kernel_rfl) (fun _ _ _ h => h) (Or.inl ⟨by rfl, fun W hS => by go_simp⟩) hH ?_
    simp only [Act.put, List.setIfInBounds_toArray, List.set_cons_zero, List.set_cons_succ]
    refine wpAnyH_ready (rs := [1, 7]) (by kernel_rfl) (by simp) ?_
    refine AllReadyH.cons (o := { dst := some 81, op := Op.call { callee := Callee.value (Operand.func 84), args := #[Operand.tmp 80], argTypes := #[9] }, type := 3, pos := "ref.go:147", after := #[{ on := 0, ground := Ground.data }], guard := none }) rfl (fun K hK => ?_) (AllReadyH.cons (o := { dst := some 19, op := Op.alloc 90, type := 0, pos := "ref.go:147", after := #[], guard := none }) rfl (fun K hK => ?_) AllReadyH.nil)
    · go_simp
      go_at_call 84
      refine (HN0.out _).mono ?_
      rintro e W' ⟨rfl, rfl⟩
      go_wp2_with fail
      refine hK.out _ _ hH (fun hH => ?_)
      clear hK K
      try simp only [Act.put, List.setIfInBounds_toArray, List.set_cons_zero, List.set_cons_succ]
      refine wpAnyH_ready (rs := [5, 7]) (by kernel_rfl) (by simp) ?_
      refine AllReadyH.cons (o := { dst := some 85, op := Op.call { callee := Callee.value (Operand.func 84), args := #[Operand.tmp 84], argTypes := #[9] }, type := 3, pos := "ref.go:147", after := #[{ on := 4, ground := Ground.data }, { on := 1, ground := Ground.chain }], guard := none }) rfl (fun K hK => ?_) (AllReadyH.cons (o := { dst := some 19, op := Op.alloc 90, type := 0, pos := "ref.go:147", after := #[], guard := none }) rfl (fun K hK => ?_) AllReadyH.nil)
      · go_simp
        go_at_call 84
        refine (HN2.out _).mono ?_
        rintro e W' ⟨rfl, rfl⟩
        go_wp2_with fail
        refine hK.out _ _ hH (fun hH => ?_)
        clear hK K
        try simp only [Act.put, List.setIfInBounds_toArray, List.set_cons_zero, List.set_cons_succ]
        refine wpAnyH_take (i := 6) (oi := { dst := some 86, op := Op.build 90 #[(0, Operand.tmp 81), (1, Operand.tmp 83), (2, Operand.tmp 85)], type := 90, pos := "ref.go:147", after := #[{ on := 1, ground := Ground.data }, { on := 3, ground := Ground.data }, { on := 5, ground := Ground.data }], guard := none }) (v := sessV v0 us v2) rfl (by kernel_rfl) (by kernel_rfl) (by kernel_rfl) (fun _ _ _ h => h) (Or.inl ⟨by rfl, fun W hS => by go_simp⟩) hH ?_
        simp only [Act.put, List.setIfInBounds_toArray, List.set_cons_zero, List.set_cons_succ]
        refine wpAnyH_ready (rs := [7]) (by kernel_rfl) (by simp) ?_
        refine AllReadyH.cons (o := { dst := some 19, op := Op.alloc 90, type := 0, pos := "ref.go:147", after := #[], guard := none }) rfl (fun K hK => ?_) AllReadyH.nil
        have hQ := hH
        go_simp
        refine hK.out _ _ (hH.alloc hH.size _) (fun hH => ?_)
        clear hK K
        try simp only [Act.put, List.setIfInBounds_toArray, List.set_cons_zero, List.set_cons_succ]
        refine wpAnyH_ready (rs := [8]) (by kernel_rfl) (by simp) ?_
        refine AllReadyH.cons (o := { dst := none, op := Op.store 90 (Operand.tmp 19) (Operand.tmp 86), type := 0, pos := "ref.go:147", after := #[{ on := 7, ground := Ground.data }, { on := 6, ground := Ground.data }, { on := 5, ground := Ground.chain }, { on := 0, ground := Ground.phase }, { on := 1, ground := Ground.phase }, { on := 2, ground := Ground.phase }, { on := 3, ground := Ground.phase }, { on := 4, ground := Ground.phase }, { on := 5, ground := Ground.phase }, { on := 6, ground := Ground.phase }, { on := 7, ground := Ground.phase }], guard := none }) rfl (fun K hK => ?_) AllReadyH.nil
        go_simp
        refine hK.out _ _ (by first | exact hH | exact hQ.alloc hQ.size _ | exact below3 hH hQ.size _ _ _) (fun hH => ?_)
        clear hK K
        try simp only [Act.put, List.setIfInBounds_toArray, List.set_cons_zero, List.set_cons_succ]
        refine wpAnyH_done (by kernel_rfl) ?_ _
        go_wp2_with fail
        go_meet
        exact ⟨Wd, rfl, BoxS.start _ _ _ _, hQ⟩
      · have hQ := hH
        go_simp
        refine hK.out _ _ (hH.alloc hH.size _) (fun hH => ?_)
        clear hK K
        try simp only [Act.put, List.setIfInBounds_toArray, List.set_cons_zero, List.set_cons_succ]
        refine wpAnyH_ready (rs := [5]) (by kernel_rfl) (by simp) ?_
        refine AllReadyH.cons (o := { dst := some 85, op := Op.call { callee := Callee.value (Operand.func 84), args := #[Operand.tmp 84], argTypes := #[9] }, type := 3, pos := "ref.go:147", after := #[{ on := 4, ground := Ground.data }, { on := 1, ground := Ground.chain }], guard := none }) rfl (fun K hK => ?_) AllReadyH.nil
        go_simp
        go_at_call 84
        refine (HN2.out _).mono ?_
        rintro e W' ⟨rfl, rfl⟩
        go_wp2_with fail
        refine hK.out _ _ hH (fun hH => ?_)
        clear hK K
        try simp only [Act.put, List.setIfInBounds_toArray, List.set_cons_zero, List.set_cons_succ]
        refine wpAnyH_take (i := 6) (oi := { dst := some 86, op := Op.build 90 #[(0, Operand.tmp 81), (1, Operand.tmp 83), (2, Operand.tmp 85)], type := 90, pos := "ref.go:147", after := #[{ on := 1, ground := Ground.data }, { on := 3, ground := Ground.data }, { on := 5, ground := Ground.data }], guard := none }) (v := sessV v0 us v2) rfl (by kernel_rfl) (by kernel_rfl) (by kernel_rfl) (fun _ _ _ h => h) (Or.inl ⟨by rfl, fun W hS => by go_simp⟩) hH ?_
        simp only [Act.put, List.setIfInBounds_toArray, List.set_cons_zero, List.set_cons_succ]
        refine wpAnyH_ready (rs := [8]) (by kernel_rfl) (by simp) ?_
        refine AllReadyH.cons (o := { dst := none, op := Op.store 90 (Operand.tmp 19) (Operand.tmp 86), type := 0, pos := "ref.go:147", after := #[{ on := 7, ground := Ground.data }, { on := 6, ground := Ground.data }, { on := 5, ground := Ground.chain }, { on := 0, ground := Ground.phase }, { on := 1, ground := Ground.phase }, { on := 2, ground := Ground.phase }, { on := 3, ground := Ground.phase }, { on := 4, ground := Ground.phase }, { on := 5, ground := Ground.phase }, { on := 6, ground := Ground.phase }, { on := 7, ground := Ground.phase }], guard := none }) rfl (fun K hK => ?_) AllReadyH.nil
        go_simp
        refine hK.out _ _ (by first | exact hH | exact hQ.alloc hQ.size _ | exact below3 hH hQ.size _ _ _) (fun hH => ?_)
        clear hK K
        try simp only [Act.put, List.setIfInBounds_toArray, List.set_cons_zero, List.set_cons_succ]
        refine wpAnyH_done (by kernel_rfl) ?_ _
        go_wp2_with fail
        go_meet
        exact ⟨Wd, rfl, BoxS.start _ _ _ _, hQ⟩
    · have hQ := hH
      go_simp
      refine hK.out _ _ (hH.alloc hH.size _) (fun hH => ?_)
      clear hK K
      try simp only [Act.put, List.setIfInBounds_toArray, List.set_cons_zero, List.set_cons_succ]
      refine wpAnyH_ready (rs := [1]) (by kernel_rfl) (by simp) ?_
      refine AllReadyH.cons (o := { dst := some 81, op := Op.call { callee := Callee.value (Operand.func 84), args := #[Operand.tmp 80], argTypes := #[9] }, type := 3, pos := "ref.go:147", after := #[{ on := 0, ground := Ground.data }], guard := none }) rfl (fun K hK => ?_) AllReadyH.nil
      go_simp
      go_at_call 84
      refine (HN0.out _).mono ?_
      rintro e W' ⟨rfl, rfl⟩
      go_wp2_with fail
      refine hK.out _ _ hH (fun hH => ?_)
      clear hK K
      try simp only [Act.put, List.setIfInBounds_toArray, List.set_cons_zero, List.set_cons_succ]
      refine wpAnyH_ready (rs := [5]) (by kernel_rfl) (by simp) ?_
      refine AllReadyH.cons (o := { dst := some 85, op := Op.call { callee := Callee.value (Operand.func 84), args := #[Operand.tmp 84], argTypes := #[9] }, type := 3, pos := "ref.go:147", after := #[{ on := 4, ground := Ground.data }, { on := 1, ground := Ground.chain }], guard := none }) rfl (fun K hK => ?_) AllReadyH.nil
      go_simp
      go_at_call 84
      refine (HN2.out _).mono ?_
      rintro e W' ⟨rfl, rfl⟩
      go_wp2_with fail
      refine hK.out _ _ hH (fun hH => ?_)
      clear hK K
      try simp only [Act.put, List.setIfInBounds_toArray, List.set_cons_zero, List.set_cons_succ]
      refine wpAnyH_take (i := 6) (oi := { dst := some 86, op := Op.build 90 #[(0, Operand.tmp 81), (1, Operand.tmp 83), (2, Operand.tmp 85)], type := 90, pos := "ref.go:147", after := #[{ on := 1, ground := Ground.data }, { on := 3, ground := Ground.data }, { on := 5, ground := Ground.data }], guard := none }) (v := sessV v0 us v2) rfl (by kernel_rfl) (by kernel_rfl) (by kernel_rfl) (fun _ _ _ h => h) (Or.inl ⟨by rfl, fun W hS => by go_simp⟩) hH ?_
      simp only [Act.put, List.setIfInBounds_toArray, List.set_cons_zero, List.set_cons_succ]
      refine wpAnyH_ready (rs := [8]) (by kernel_rfl) (by simp) ?_
      refine AllReadyH.cons (o := { dst := none, op := Op.store 90 (Operand.tmp 19) (Operand.tmp 86), type := 0, pos := "ref.go:147", after := #[{ on := 7, ground := Ground.data }, { on := 6, ground := Ground.data }, { on := 5, ground := Ground.chain }, { on := 0, ground := Ground.phase }, { on := 1, ground := Ground.phase }, { on := 2, ground := Ground.phase }, { on := 3, ground := Ground.phase }, { on := 4, ground := Ground.phase }, { on := 5, ground := Ground.phase }, { on := 6, ground := Ground.phase }, { on := 7, ground := Ground.phase }], guard := none }) rfl (fun K hK => ?_) AllReadyH.nil
      go_simp
      refine hK.out _ _ (by first | exact hH | exact hQ.alloc hQ.size _ | exact below3 hH hQ.size _ _ _) (fun hH => ?_)
      clear hK K
      try simp only [Act.put, List.setIfInBounds_toArray, List.set_cons_zero, List.set_cons_succ]
      refine wpAnyH_done (by kernel_rfl) ?_ _
      go_wp2_with fail
      go_meet
      exact ⟨Wd, rfl, BoxS.start _ _ _ _, hQ⟩
  case rest =>
    obtain ⟨W0, rfl, hS, hb0⟩ := hcut
    have HB00 := Lib.hid hb0
    have hR := (HBR.out.next hb0).next hS.below
    obtain ⟨-, s0, s1, s2⟩ := id hS
    have HS := Lib.hid hS
    have HBR2 := Lib.hid hR
    clear hS hR HBR hb0
    have HSS := Lib.hid (fun (W : World) => refSession_walk v0 us v2 W (by unfold maxLen; omega))
    by_cases hse : sessB ⟨v0, us.data.toList, v2⟩
    rotate_left
    · have HR : Hid (ReadIs secret.data.toList token.data.toList clock zeroS 211) := HBADR.out (fun t ht h => hse (by rw [HEQ.out t ht h]; exact ht))
      rw [decide_eq_false hse] at HSS
      clear hse
      go_wp2_with fail
      refine (HSS.out _).mono ?_
      rintro e w5 ⟨rfl, hb5⟩
      have hR5 := HBR2.out.next hb5
      obtain ⟨-, y0, y1, y2⟩ := id hR5
      have hf := hR5.frozen
      have HR5 := Lib.hid hR5
      clear hR5 hb5
      go_wp2_with fail
      refine ret_refRead (g := w.heap.size) (u0 := .int .i64 0) (u1 := .string ⟨#[]⟩) (u2 := .int .i64 0) rfl rfl rfl (by go_simp) (by go_simp) (by go_simp) ?_
      exact read_zero HR.out (by first | exact HR5.out.below | exact below3 HR5.out.below (Nat.le_refl _) _ _ _)
    rw [decide_eq_true hse] at HSS
    obtain ⟨M, hM⟩ : ∃ M : ByteArray, (⟨(madeT secret.data.toList ⟨v0, us.data.toList, v2⟩).toArray⟩ : ByteArray) = M := ⟨_, rfl⟩
    have hMd : madeT secret.data.toList ⟨v0, us.data.toList, v2⟩ = M.data.toList := by rw [← hM]
    obtain ⟨q1, q2, -, q4, q5⟩ := id hse
    replace q2 : v0 ≤ 2147483647 := q2
    replace q5 : v2 ≤ 1099511627776 := q5
    have HMK := Lib.hid (fun (W : World) => refMade_walk secret us v0 v2 W q1 (by omega) q4 (by omega) (by have := named_len hse.2.2.1; rw [ba_len] at this; omega) (by omega))
    rw [hM] at HMK
    have hq := ba_eq M token
    by_cases hmt : M = token
    rotate_left
    · have HR : Hid (ReadIs secret.data.toList token.data.toList clock zeroS 211) := HBADR.out (fun t ht h => hmt (by
        have h1 := HEQ.out t ht h
        rw [← h1] at h
        have : M.data.toList = token.data.toList := hMd.symm.trans h
        rw [← ba_mk M, ← ba_mk token, this]))
      rw [decide_eq_false hmt] at hq
      clear hse hmt hM hMd q1 q2 q4 q5
      go_wp2_with fail
      refine (HSS.out _).mono ?_
      rintro e w5 ⟨rfl, hb5⟩
      have hS5 := HS.out.next hb5
      obtain ⟨-, t0, t1, t2⟩ := id hS5
      have HR5 := Lib.hid (HBR2.out.next hb5)
      clear hS5 hb5
      go_wp2_with fail
      refine (HMK.out _).mono ?_
      rintro e w6 ⟨rfl, hb6⟩
      have hR6 := HR5.out.next hb6
      obtain ⟨-, y0, y1, y2⟩ := id hR6
      have hf := hR6.frozen
      have HR6 := Lib.hid hR6
      clear hR6 hb6
      go_wp2_with fail
      refine ret_refRead (g := w.heap.size) (u0 := .int .i64 0) (u1 := .string ⟨#[]⟩) (u2 := .int .i64 0) rfl rfl rfl (by go_simp) (by go_simp) (by go_simp) ?_
      exact read_zero HR.out (by first | exact HR6.out.below | exact below3 HR6.out.below (Nat.le_refl _) _ _ _)
    subst hmt
    rw [decide_eq_true rfl] at hq
    by_cases hlate : v2 < clock
    · have HR := Lib.hid (readIs_late (clock := clock) HK.out (by omega) (by omega) hse hMd hlate)
      have d6 : decide (v2 < clock) = true := decide_eq_true hlate
      clear hse hM hMd q1 q2 q4 q5
      go_wp2_with fail
      refine (HSS.out _).mono ?_
      rintro e w5 ⟨rfl, hb5⟩
      have hS5 := HS.out.next hb5
      obtain ⟨-, t0, t1, t2⟩ := id hS5
      have HS5 := Lib.hid hS5
      have HR5 := Lib.hid (HBR2.out.next hb5)
      clear hS5 hb5
      go_wp2_with fail
      refine (HMK.out _).mono ?_
      rintro e w6 ⟨rfl, hb6⟩
      obtain ⟨-, r0, r1, r2⟩ := HS5.out.next hb6
      have hR6 := HR5.out.next hb6
      obtain ⟨-, y0, y1, y2⟩ := id hR6
      have hf := hR6.frozen
      have HR6 := Lib.hid hR6
      clear hR6 hb6 t0 t1 t2 s0 s1 s2
      go_wp2_with fail
      refine ret_refRead (g := w.heap.size) (u0 := .int .i64 0) (u1 := .string ⟨#[]⟩) (u2 := .int .i64 0) rfl rfl rfl (by go_simp) (by go_simp) (by go_simp) ?_
      exact read_zero HR.out (by first | exact HR6.out.below | exact below3 HR6.out.below (Nat.le_refl _) _ _ _)
    · have HR := Lib.hid (readIs_yes (clock := clock) HK.out (by omega) (by omega) hse hMd (show clock ≤ v2 by omega))
      have d6 : decide (v2 < clock) = false := decide_eq_false hlate
      clear hse hM hMd q1 q2 q4 q5
      go_wp2_with fail
      refine (HSS.out _).mono ?_
      rintro e w5 ⟨rfl, hb5⟩
      have hS5 := HS.out.next hb5
      obtain ⟨-, t0, t1, t2⟩ := id hS5
      have HS5 := Lib.hid hS5
      have HR5 := Lib.hid (HBR2.out.next hb5)
      clear hS5 hb5
      go_wp2_with fail
      refine (HMK.out _).mono ?_
      rintro e w6 ⟨rfl, hb6⟩
      obtain ⟨-, r0, r1, r2⟩ := HS5.out.next hb6
      have hR6 := HR5.out.next hb6
      obtain ⟨-, y0, y1, y2⟩ := id hR6
      have hf := hR6.frozen
      have HR6 := Lib.hid hR6
      clear hR6 hb6 t0 t1 t2 s0 s1 s2
      go_wp2_with fail
      refine ret_refRead (g := w.heap.size) (u0 := .int .i64 v0) (u1 := .string us) (u2 := .int .i64 v2) rfl rfl rfl (by go_simp) (by go_simp) (by go_simp) ?_
      exact ⟨⟨_, _, HR.out, by rw [ba_mk2]; rfl⟩, (by first | exact below3 HR6.out.below (Nat.le_refl _) _ _ _)⟩
end Go.Proofs.YtinijohmdljieaaGreatDoor
