/- strings.ContainsRune of the text of the three signs that a name may bear beside letters and digits, at every rune up to U+10FFFF. -/
import Derived.Test.YtinijohmdljieaaGreatDoorChecked
import Derived.Test.YtinijohmdljieaaGreatDoorShelf
import Derived.Test.YtinijohmdljieaaGreatDoorBase
import Derived.Laws.Runes
import Derived.Lib.OthersKept
import Derived.Deep.LoopGhost
namespace Go.Proofs.YtinijohmdljieaaGreatDoor
open Go.RowKit

theorem signs_decode (pos : Nat) (h : pos < 3) : ∃ R : Nat, Utf8.decode ⟨#[45, 95, 46]⟩ pos = (R, 1) ∧ R < 128 := by
  match pos, h with
  | 0, _ => exact ⟨45, by decide, by omega⟩
  | 1, _ => exact ⟨95, by decide, by omega⟩
  | 2, _ => exact ⟨46, by decide, by omega⟩

set_option maxHeartbeats 2000000 in
set_option maxRecDepth 100000 in
theorem IndexRune_error (w : World) :
    Calls Tryz.prog 142 #[.string ⟨#[45, 95, 46]⟩, .int .i32 65533] w fun e w' => e = .returned (.int .i64 (-1)) ∧ Below w.heap.size w w' := by
  go_enter Tryz.func142, Tryz.ntmps142
  go_wp2
  go_loopg [] 3 (fun gf wx => ∃ pos : Nat, wx.heap[w.heap.size]? = some (.stringIter ⟨#[45, 95, 46]⟩ pos) ∧ Below w.heap.size w wx ∧ pos ≤ 3 ∧ 3 ≤ pos + gf)
  case atStart => exact ⟨0, World.iter_heap w _ 0, (Below.refl _ w).alloc (Nat.le_refl _) _, by omega, by omega⟩
  case round =>
    obtain ⟨pos, hit, hbw, h3, hfu⟩ := hrel
    by_cases hps : pos < 3
    · obtain ⟨g', rfl⟩ : ∃ g', gk = g' + 1 := ⟨gk - 1, by omega⟩
      have hnx : ∀ ty, (Instr.next (.pointer (some ⟨w.heap.size, 0, none⟩)) true ty).run Tryz.prog wr = _ := fun ty => Lib.run_next_any_at wr w.heap.size ⟨#[45, 95, 46]⟩ pos ty hit hps
      obtain ⟨R, hd, hR⟩ := signs_decode pos hps
      rw [hd] at hnx
      have hne : ((R : Int) == 65533) = false := by simp; omega
      have hit2 := Lib.iterAt_heap wr w.heap.size ⟨#[45, 95, 46]⟩ pos (pos + 1) hit
      have hbw2 := Lib.below_iterAt hbw (k := w.heap.size) (Nat.le_refl _) ⟨#[45, 95, 46]⟩ (pos + 1)
      obtain ⟨W, hWd⟩ : ∃ W, wr.iterAt w.heap.size ⟨#[45, 95, 46]⟩ (pos + 1) = W := ⟨_, rfl⟩
      simp only [hWd] at hnx hit2 hbw2
      clear hd
      go_wp2
      go_roundg g'
      case measure => omega
      case rel => exact ⟨pos + 1, hit2, hbw2, by omega, by omega⟩
    · have hnx : ∀ ty, (Instr.next (.pointer (some ⟨w.heap.size, 0, none⟩)) true ty).run Tryz.prog wr = _ := fun ty => Lib.run_next_end_at wr w.heap.size ⟨#[45, 95, 46]⟩ pos ty hit hps
      go_wp2
      go_ret
      exact ⟨rfl, hbw⟩

theorem valid_yes {r : Int} (h : validRune r = true) : Lib.validRune r = true := by
  simp [validRune, Lib.validRune] at *; omega
theorem valid_no {r : Int} (h : validRune r = false) : Lib.validRune r = false := by
  simp [validRune, Lib.validRune] at *; omega

set_option maxHeartbeats 2000000 in
set_option maxRecDepth 100000 in
theorem IndexRune_bad (r : Int) (w : World) (h0 : 128 ≤ r) (h1 : validRune r = false) (h2 : r ≠ 65533) :
    Calls Tryz.prog 142 #[.string ⟨#[45, 95, 46]⟩, .int .i32 r] w fun e w' => e = .returned (.int .i64 (-1)) ∧ Below w.heap.size w w' := by
  have h3 : (r == 65533) = false := by simpa using h2
  have h4 := valid_no h1
  have h5 : decide (r < 128) = false := by simp; omega
  clear h1 h2
  go_enter Tryz.func142, Tryz.ntmps142
  go_wp2_with (go_at_call 175; refine (Tryz.utf8_ValidRune _ _).mono ?_; rintro e w' ⟨rfl, rfl⟩)
  go_ret
  exact ⟨rfl, Below.refl _ _⟩

theorem signs_none (a : Nat) (c : UInt8) (h : 128 ≤ c.toNat) : Lib.indexByte ((⟨#[45, 95, 46]⟩ : ByteArray).extract a 3).data.toList c = -1 := by
  have h1 : ∀ l : List UInt8, (∀ b ∈ l, b.toNat < 128) → Lib.indexByte l c = -1 := by
    intro l
    induction l with
    | nil => intro _; rfl
    | cons b l ih =>
      intro hl
      have hb := hl b (by simp)
      have hne : (b == c) = false := by
        simp only [beq_eq_false_iff_ne]; rintro rfl; omega
      simp [Lib.indexByte, hne, ih fun x hx => hl x (by simp [hx])]
  refine h1 _ fun b hb => ?_
  have h3 := mem_extract hb
  clear hb
  revert b; decide

set_option maxHeartbeats 2000000 in
set_option maxRecDepth 100000 in
theorem IndexRune_high (r : Int) (w : World) (h0 : 128 ≤ r) (h1 : validRune r = true) (h2 : r ≠ 65533) :
    Calls Tryz.prog 142 #[.string ⟨#[45, 95, 46]⟩, .int .i32 r] w fun e w' => e = .returned (.int .i64 (-1)) ∧ Below w.heap.size w w' := by
  have h3 : (r == 65533) = false := by simpa using h2
  have h4 := valid_yes h1
  have h5 : decide (r < 128) = false := by simp; omega
  obtain ⟨g1, g2, g3⟩ := encode_facts r (by rw [validRune_eq]; exact h1) h0
  generalize hrs : Utf8.encode r = rs at g1 g2 g3
  clear h1 h2
  have hc : rs.size = 2 ∨ rs.size = 3 ∨ rs.size = 4 := by omega
  rcases hc with hz | hz | hz
  · have hg : 128 ≤ (rs[1]'(by omega)).toNat := by
      have := g3 (by omega)
      simpa [hz] using this
    clear g1 g2 g3
    obtain ⟨c, hcc⟩ : ∃ c, rs[1]'(by omega) = c := ⟨_, rfl⟩
    rw [hcc] at hg
    have hne : ((((⟨#[45, 95, 46]⟩ : ByteArray)[1]'(by decide)).toNat : Int) != (c.toNat : Int)) = true := by
      have : ((⟨#[45, 95, 46]⟩ : ByteArray)[1]'(by decide)).toNat = 95 := by decide
      rw [this]; simp; omega
    have hc2 : (c.toNat : Int).toNat.toUInt8 = c := by simp
    have hix : Lib.indexByte [46] c = -1 := signs_none 2 c hg
    clear hg
    go_enter Tryz.func142, Tryz.ntmps142
    go_wp2_with (go_at_call 175; refine (Tryz.utf8_ValidRune _ _).mono ?_; rintro e w' ⟨rfl, rfl⟩)
    go_step3
    go_wp2
    refine wp_loop_rounds 1 ?_
    rw [rounds_succ]
    go_wp2
    go_step3
    go_wp2
    go_quiet (fail)
    go_wp2
    go_quiet ((go_at_call 121; exact q_same (Tryz.strings_IndexByte _ _ _)))
    go_wp2
    rw [Exit.noGoto_ret]
    go_wp2
    rw [Exit.noGoto_ret]
    go_ret
    exact ⟨rfl, below_drewN (Below.refl _ _) _⟩
  · have hg : 128 ≤ (rs[2]'(by omega)).toNat := by
      have := g3 (by omega)
      simpa [hz] using this
    clear g1 g2 g3
    obtain ⟨c, hcc⟩ : ∃ c, rs[2]'(by omega) = c := ⟨_, rfl⟩
    rw [hcc] at hg
    have hne : ((((⟨#[45, 95, 46]⟩ : ByteArray)[2]'(by decide)).toNat : Int) != (c.toNat : Int)) = true := by
      have : ((⟨#[45, 95, 46]⟩ : ByteArray)[2]'(by decide)).toNat = 46 := by decide
      rw [this]; simp; omega
    have hc2 : (c.toNat : Int).toNat.toUInt8 = c := by simp
    have hix : Lib.indexByte [] c = -1 := rfl
    clear hg
    go_enter Tryz.func142, Tryz.ntmps142
    go_wp2_with (go_at_call 175; refine (Tryz.utf8_ValidRune _ _).mono ?_; rintro e w' ⟨rfl, rfl⟩)
    go_step3
    go_wp2
    refine wp_loop_rounds 1 ?_
    rw [rounds_succ]
    go_wp2
    go_step3
    go_wp2
    go_quiet (fail)
    go_wp2
    go_quiet ((go_at_call 121; exact q_same (Tryz.strings_IndexByte _ _ _)))
    go_wp2
    rw [Exit.noGoto_ret]
    go_wp2
    rw [Exit.noGoto_ret]
    go_ret
    exact ⟨rfl, below_drewN (Below.refl _ _) _⟩
  · clear g1 g2 g3
    go_enter Tryz.func142, Tryz.ntmps142
    go_wp2_with (go_at_call 175; refine (Tryz.utf8_ValidRune _ _).mono ?_; rintro e w' ⟨rfl, rfl⟩)
    go_step3
    go_wp2
    refine wp_loop_rounds 1 ?_
    rw [rounds_succ]
    go_wp2
    rw [Exit.noGoto_ret]
    go_ret
    exact ⟨rfl, Below.refl _ _⟩

/-- one of the three signs -/
def sign (r : Nat) : Bool := r == 45 || r == 95 || r == 46

theorem IndexRune_none (r : Nat) (w : World) (h0 : 128 ≤ r) :
    Calls Tryz.prog 142 #[.string ⟨#[45, 95, 46]⟩, .int .i32 r] w fun e w' => e = .returned (.int .i64 (-1)) ∧ Below w.heap.size w w' := by
  by_cases h2 : (r : Int) = 65533
  · rw [h2]; exact IndexRune_error w
  cases h1 : validRune r
  · exact IndexRune_bad r w (by omega) h1 h2
  · exact IndexRune_high r w (by omega) h1 h2

theorem sign_low (r : Nat) (h : r < 128) : decide (0 ≤ Lib.indexByte [45, 95, 46] r.toUInt8) = sign r := by
  have : ∀ r, r < 128 → decide (0 ≤ Lib.indexByte [45, 95, 46] (Nat.toUInt8 r)) = sign r := by decide +kernel
  exact this r h

set_option maxHeartbeats 1000000 in
theorem ContainsRune_signs (r : Nat) (w : World) :
    Calls Tryz.prog 100 #[.string ⟨#[45, 95, 46]⟩, .int .i32 r] w fun e w' => e = .returned (.bool (sign r)) ∧ Below w.heap.size w w' := by
  by_cases h0 : r < 128
  · refine (Tryz.strings_ContainsRune_ascii _ _ _ (by omega) (by omega)).mono ?_
    rintro e w' ⟨rfl, rfl⟩
    exact ⟨ret_bool (sign_low r h0), Below.refl _ _⟩
  · have hs : sign r = false := by simp [sign]; omega
    rw [hs]
    go_enter Tryz.func100, Tryz.ntmps100
    go_wp2_with (go_at_call 142; refine (IndexRune_none _ _ (by omega)).mono ?_; rintro e w1 ⟨rfl, hb⟩)
    go_ret
    exact ⟨rfl, hb⟩
end Go.Proofs.YtinijohmdljieaaGreatDoor
