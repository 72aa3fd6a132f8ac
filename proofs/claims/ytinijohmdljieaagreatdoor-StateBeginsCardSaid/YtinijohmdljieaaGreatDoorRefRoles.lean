/- docketref20's place and Check. -/
import Derived.Test.YtinijohmdljieaaGreatDoorRolesClosed0
import Derived.Test.YtinijohmdljieaaGreatDoorApartP
namespace Go.Proofs.YtinijohmdljieaaGreatDoor
open Go.RowKit

def placeI (l : List Rl) (n : ByteArray) : Int := match l.findIdx? (fun r => bq r.name n) with | some i => (i : Int) | none => -1

theorem placeI_at {l : List Rl} {n : ByteArray} {k : Nat} (h : k < l.length) (hk : bq l[k].name n = true) (hno : ∀ j (hj : j < k), bq (l[j]'(by omega)).name n = false) : placeI l n = k := by
  have : l.findIdx? (fun r => bq r.name n) = some k := List.findIdx?_eq_some_iff_getElem.2 ⟨h, hk, fun j hj => by simp [hno j hj]⟩
  rw [placeI, this]
theorem placeI_none {l : List Rl} {n : ByteArray} (hno : ∀ j (hj : j < l.length), bq l[j].name n = false) : placeI l n = -1 := by
  have : l.findIdx? (fun r => bq r.name n) = none := List.findIdx?_eq_none_iff.2 fun x hx => by
    obtain ⟨j, hj, rfl⟩ := List.mem_iff_getElem.1 hx
    exact hno j hj
  rw [placeI, this]
theorem placeI_cases (l : List Rl) (n : ByteArray) : (placeI l n = -1 ∧ findR l n = none) ∨ ∃ k, ∃ h : k < l.length, placeI l n = k ∧ findR l n = some l[k] ∧ l[k].name = n := by
  have hb : ∀ a b : ByteArray, bq a b = decide (a = b) := ba_eq
  unfold placeI
  induction l with
  | nil => left; simp [findR]
  | cons x l ih =>
    by_cases hx : x.name = n
    · right
      exact ⟨0, by simp, by simp [List.findIdx?_cons, hb, hx], by simp [findR, hx], hx⟩
    · have h0 : bq x.name n = false := by rw [hb]; exact decide_eq_false hx
      rcases ih with ⟨h1, h2⟩ | ⟨k, hk, h1, h2, h3⟩
      · left
        refine ⟨?_, by simp [findR, hx, h2]⟩
        rw [List.findIdx?_cons, h0]
        cases hf : l.findIdx? (fun r => bq r.name n) with
        | none => simp
        | some i => rw [hf] at h1; simp at h1; try omega
      · right
        refine ⟨k + 1, by simpa using hk, ?_, by simp [findR, hx, h2], by simpa using h3⟩
        rw [List.findIdx?_cons, h0]
        cases hf : l.findIdx? (fun r => bq r.name n) with
        | none => rw [hf] at h1; simp at h1; try omega
        | some i => rw [hf] at h1; simp at h1 ⊢; omega

set_option maxHeartbeats 2000000 in
set_option maxRecDepth 100000 in
theorem ref_place (B : Nat) (v : Value) (l : List Rl) (n : ByteArray) (w : World) (h : Rls B w v l) (hl : l.length ≤ maxLen) :
    Calls Tryz.prog 70 #[v, .string n] w fun e w' => e = .returned (.int .i64 (placeI l n)) ∧ w' = w := by
  obtain ⟨a, c, b, o, rfl, hle, hC⟩ := h.cells
  have HC := Lib.hid hC
  unfold maxLen at hl
  clear h hC
  go_enter Tryz.func70, Tryz.ntmps70
  go_wp2
  go_loop [5] (fun i => ∃ k : Nat, k ≤ l.length ∧ i = .int .i64 k ∧ Hid (∀ j (h : j < l.length), j < k → bq l[j].name n = false)) (fun i => l.length - (intOf i).toNat)
  case atStart => exact ⟨0, by omega, rfl, by intro j h h0; omega⟩
  case round =>
    obtain ⟨k, hk, rfl, hno⟩ := hrel
    by_cases hlt : k < l.length
    · obtain ⟨rfl, hbl⟩ := HC.out.at0 (by omega)
      have x0 := HC.out.c0 k hlt
      obtain ⟨nm, hnm⟩ : ∃ nm, l[k].name = nm := ⟨_, rfl⟩
      rw [hnm] at x0
      have Hnm := Lib.hid hnm; clear hnm
      cases hq : (nm.toList == n.toList)
      · go_wp2
        go_round
        case rel => exact ⟨k + 1, by omega, by go_num, fun j h hj => by
          by_cases hjk : j = k
          · subst hjk; rw [Hnm.out]; exact hq
          · exact hno.out j h (by omega)⟩
        case measure => simp [intOf]; omega
      · go_wp2
        go_ret
        exact ⟨ret_int (placeI_at hlt (by rw [Hnm.out]; exact hq) (fun j hj => hno.out j (by omega) hj)).symm, rfl⟩
    · go_wp2
      go_ret
      exact ⟨ret_int (placeI_none fun j hj => hno.out j hj (by omega)).symm, rfl⟩

/-- P20.1 -/
def okRoleAt (l : List Rl) (i : Nat) (r : Rl) : Bool := nmOk r.name && (placeI l r.name == (i : Int)) && decide (r.holds.length ≤ 32) && decide (r.may.length ≤ 1024) && r.holds.all (fun h => decide (0 ≤ placeI l h)) && r.may.all nmOk
def okAll (l : List Rl) (k : Nat) : Prop := ∀ j (h : j < l.length), j < k → okRoleAt l j l[j] = true
def chkR (l : List Rl) (x : Int) : Prop := (32 < l.length → x = 4) ∧ (¬ 32 < l.length → okAll l l.length → x = 0) ∧ (¬ 32 < l.length → ¬ okAll l l.length → x = 200)

theorem okAll_bad {l : List Rl} {k : Nat} (h : k < l.length) (hb : okRoleAt l k l[k] = false) : ¬ okAll l l.length := fun hA => by
  have := hA k h h
  rw [hb] at this; cases this
theorem okAll_step {l : List Rl} {k : Nat} (h : k < l.length) (h0 : Hid (okAll l k)) (h1 : okRoleAt l k l[k] = true) : Hid (okAll l (k + 1)) := by
  intro j hj hjk
  by_cases e : j = k
  · subst e; exact h1
  · exact h0.out j hj (by omega)
theorem okAt_holds {l : List Rl} {i : Nat} {r : Rl} (h : r.holds.all (fun h => decide (0 ≤ placeI l h)) = false) : okRoleAt l i r = false := by
  simp only [okRoleAt]; rw [h]; simp
theorem okAt_may {l : List Rl} {i : Nat} {r : Rl} (h : r.may.all nmOk = false) : okRoleAt l i r = false := by
  simp only [okRoleAt]; rw [h]; simp
theorem okAt_yes {l : List Rl} {i : Nat} {r : Rl} (h1 : named r.name.data.toList = true) (h0 : (placeI l r.name == (i : Int)) = true) (h2 : ¬ 32 < r.holds.length) (h3 : ¬ 1024 < r.may.length) (h4 : r.holds.all (fun h => decide (0 ≤ placeI l h)) = true) (h5 : r.may.all nmOk = true) : okRoleAt l i r = true := by
  have e2 : decide (r.holds.length ≤ 32) = true := decide_eq_true (by omega)
  have e3 : decide (r.may.length ≤ 1024) = true := decide_eq_true (by omega)
  simp only [okRoleAt, nmOk]; rw [h1, h0, e2, e3, h4]; simpa [nmOk] using h5

set_option maxHeartbeats 8000000 in
set_option maxRecDepth 100000 in
theorem ref_Check (B : Nat) (v : Value) (l : List Rl) (w : World) (h : Rls B w v l) (hl : l.length ≤ maxLen) :
    Calls Tryz.prog 28 #[v] w fun e w' => ∃ x, e = .returned (.int .i64 x) ∧ chkR l x ∧ w' = w := by
  have cP := fun n => ref_place B v l n w h hl
  obtain ⟨a, c, b, o, rfl, hle, hC⟩ := h.cells
  have HC := Lib.hid hC
  clear h hC hle
  unfold maxLen at hl
  by_cases h32 : 32 < l.length
  · have g : decide (32 < (l.length : Int)) = true := decide_eq_true (by omega)
    clear cP
    go_enter Tryz.func28, Tryz.ntmps28
    go_wp2_with fail
    go_ret
    exact ⟨4, rfl, ⟨fun _ => rfl, fun h => absurd h32 h, fun h => absurd h32 h⟩, rfl⟩
  have g : decide (32 < (l.length : Int)) = false := decide_eq_false (by omega)
  have hbad : ∀ k (h : k < l.length), okRoleAt l k l[k] = false → chkR l 200 := fun k h hb => ⟨fun h => absurd h h32, fun _ hA => absurd hA (okAll_bad h hb), fun _ _ => rfl⟩
  have HB := Lib.hid hbad
  have cN := fun (s : ByteArray) (hs : s.size ≤ maxLen) => refNamed s w hs
  clear hbad
  go_enter Tryz.func28, Tryz.ntmps28
  go_wp2
  go_loop [3] (fun i => ∃ k : Nat, k ≤ l.length ∧ i = .int .i64 k ∧ Hid (okAll l k)) (fun i => l.length - (intOf i).toNat)
  case atStart => exact ⟨0, by omega, rfl, fun j _ h => by omega⟩
  case round =>
    obtain ⟨k, hk, rfl, hall⟩ := hrel
    by_cases hlt : k < l.length
    · obtain ⟨rfl, hbl⟩ := HC.out.at0 (by omega)
      have x0 := HC.out.c0 k hlt
      have x1 := HC.out.c1 k hlt
      have x2 := HC.out.c2 k hlt
      simp only [Rl.hv, Rl.mv] at x1 x2
      have cN1 := cN l[k].name (HC.out.ok k hlt).name
      have cP1 := cP l[k].name
      have HP1 := Lib.hid (placeI_cases l l[k].name)
      obtain ⟨pl, hpl⟩ : ∃ pl, placeI l l[k].name = pl := ⟨_, rfl⟩
      rw [hpl] at cP1 HP1
      have HPL := Lib.hid hpl
      clear hpl
      cases hn : named l[k].name.data.toList
      · simp only [hn] at cN1
        go_wp2_with (go_at_call 69; refine cN1.mono ?_; rintro e w2 ⟨rfl, rfl⟩)
        go_ret
        exact ⟨200, rfl, HB.out k hlt (by simp [okRoleAt, nmOk, hn]), rfl⟩
      simp only [hn] at cN1
      cases hpk : (pl == (k : Int))
      · have hpk2 : (pl != (k : Int)) = true := by simp [bne, hpk]
        have HPK := Lib.hid hpk; clear hpk
        go_wp2_with (first | (go_at_call 69; refine cN1.mono ?_; rintro e w2 ⟨rfl, rfl⟩) | (go_at_call 70; refine cP1.mono ?_; rintro e w2 ⟨rfl, rfl⟩))
        go_ret
        exact ⟨200, rfl, HB.out k hlt (by simp only [okRoleAt]; rw [HPL.out, HPK.out]; simp), rfl⟩
      have hpk2 : (pl != (k : Int)) = false := by simp [bne, hpk]
      have HPK := Lib.hid hpk; clear hpk
      by_cases hh : 32 < l[k].holds.length
      · have g3 : decide (32 < (l[k].holds.length : Int)) = true := decide_eq_true (by omega)
        go_wp2_with (first | (go_at_call 69; refine cN1.mono ?_; rintro e w2 ⟨rfl, rfl⟩) | (go_at_call 70; refine cP1.mono ?_; rintro e w2 ⟨rfl, rfl⟩))
        go_ret
        exact ⟨200, rfl, HB.out k hlt (by simp [okRoleAt]; omega), rfl⟩
      have g3 : decide (32 < (l[k].holds.length : Int)) = false := decide_eq_false (by omega)
      by_cases hmm : 1024 < l[k].may.length
      · have g4 : decide (1024 < (l[k].may.length : Int)) = true := decide_eq_true (by omega)
        go_wp2_with (first | (go_at_call 69; refine cN1.mono ?_; rintro e w2 ⟨rfl, rfl⟩) | (go_at_call 70; refine cP1.mono ?_; rintro e w2 ⟨rfl, rfl⟩))
        go_ret
        exact ⟨200, rfl, HB.out k hlt (by simp [okRoleAt]; omega), rfl⟩
      have g4 : decide (1024 < (l[k].may.length : Int)) = false := decide_eq_false (by omega)
      go_wp2_with (first | (go_at_call 69; refine cN1.mono ?_; rintro e w2 ⟨rfl, rfl⟩) | (go_at_call 70; refine cP1.mono ?_; rintro e w2 ⟨rfl, rfl⟩))
      obtain ⟨ah, ch, bh, oh, hve, -, hah, hch⟩ := (HC.out.hs k hlt).cells
      injection hve with hva hvn hvc
      subst hva
      have Hah := Lib.hid hah; have Hch := Lib.hid hch; clear hah hch hvn hvc
      go_loop [4] (fun i => ∃ m : Nat, m ≤ l[k].holds.length ∧ i = .int .i64 m ∧ Hid ((l[k].holds.take m).all (fun h => decide (0 ≤ placeI l h)) = true)) (fun i => l[k].holds.length - (intOf i).toNat)
      case atStart => exact ⟨0, by omega, rfl, by simp [Hid]⟩
      case round =>
        obtain ⟨m, hm, rfl, hall3⟩ := hrel
        by_cases hlt3 : m < l[k].holds.length
        · obtain ⟨e1, hbl3⟩ := Hah.out (by omega)
          have z0 := Hch.out m hlt3
          have cP3 := cP l[k].holds[m]
          obtain ⟨p3, hp3⟩ : ∃ p3, placeI l l[k].holds[m] = p3 := ⟨_, rfl⟩
          rw [hp3] at cP3
          have HP3 := Lib.hid hp3; clear hp3
          by_cases hneg : p3 < 0
          · have g5 : decide (p3 < 0) = true := decide_eq_true hneg
            go_wp2_with (go_at_call 70; clear e1; refine cP3.mono ?_; rintro e w2 ⟨rfl, rfl⟩)
            go_ret
            exact ⟨200, rfl, HB.out k hlt (okAt_holds (all_bad hlt3 (by rw [HP3.out]; exact decide_eq_false (by omega)))), rfl⟩
          · have g5 : decide (p3 < 0) = false := decide_eq_false hneg
            go_wp2_with (go_at_call 70; clear e1; refine cP3.mono ?_; rintro e w2 ⟨rfl, rfl⟩)
            go_round
            case rel => exact ⟨m + 1, by omega, by go_num, take_all_snoc hlt3 hall3 (by rw [HP3.out]; exact decide_eq_true (by omega))⟩
            case measure => simp [intOf]; omega
        · have HF3 := Lib.hid (take_all_end (by omega) hall3)
          go_wp2
          obtain ⟨am, cm, bm, om, hvm, -, ham, hcm⟩ := (HC.out.ms k hlt).cells
          injection hvm with hva hvn hvc
          subst hva
          have Ham := Lib.hid ham; have Hcm := Lib.hid hcm; clear ham hcm hvn hvc
          go_loop [5] (fun i => ∃ m : Nat, m ≤ l[k].may.length ∧ i = .int .i64 m ∧ Hid ((l[k].may.take m).all nmOk = true)) (fun i => l[k].may.length - (intOf i).toNat)
          case atStart => exact ⟨0, by omega, rfl, by simp [Hid]⟩
          case round =>
            obtain ⟨q, hq, rfl, hall5⟩ := hrel
            by_cases hlt5 : q < l[k].may.length
            · obtain ⟨e2, hbl5⟩ := Ham.out (by omega)
              have z0 := Hcm.out q hlt5
              have cN5 := cN l[k].may[q] ((HC.out.ok k hlt).may _ (List.getElem_mem hlt5))
              cases hn5 : named l[k].may[q].data.toList
              · simp only [hn5] at cN5
                go_wp2_with (go_at_call 69; clear e2; refine cN5.mono ?_; rintro e w6 ⟨rfl, rfl⟩)
                go_ret
                exact ⟨200, rfl, HB.out k hlt (okAt_may (all_bad hlt5 hn5)), rfl⟩
              · simp only [hn5] at cN5
                go_wp2_with (go_at_call 69; clear e2; refine cN5.mono ?_; rintro e w6 ⟨rfl, rfl⟩)
                go_round
                case rel => exact ⟨q + 1, by omega, by go_num, take_all_snoc hlt5 hall5 hn5⟩
                case measure => simp [intOf]; omega
            · have HF5 := Lib.hid (take_all_end (by omega) hall5)
              go_wp2
              go_round
              case rel => exact ⟨k + 1, by omega, by go_num, okAll_step hlt hall (okAt_yes hn (by rw [HPL.out]; exact HPK.out) hh hmm HF3.out HF5.out)⟩
              case measure => simp [intOf]; omega
    · go_wp2
      go_ret
      exact ⟨0, rfl, ⟨fun h => absurd h h32, fun _ _ => rfl, fun _ hA => absurd (fun j hj _ => hall.out j hj (by omega)) hA⟩, rfl⟩
end Go.Proofs.YtinijohmdljieaaGreatDoor
